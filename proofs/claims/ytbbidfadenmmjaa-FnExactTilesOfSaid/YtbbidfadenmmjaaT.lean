/- contracts of functions, each walked once -/
import Derived.Test.YtbbidfadenmmjaaTy
import Derived.Test.YtbbidfadenmmjaaUni
import Derived.Test.YtbbidfadenmmjaaOwn
import Derived.Test.YtbbidfadenmmjaaTil
namespace Go.Proofs.Ytbbidfadenmmjaa
open Go Go.RowKit
set_option maxRecDepth 100000
set_option maxHeartbeats 3200000
set_option linter.unusedVariables false
set_option linter.unusedSimpArgs false

/- laws.toVector -/
theorem c_laws_toVector (a : List Value) (A_a : V3) (w : World) (hv_a : RV3 w A_a a) : Gives Try.prog 55 #[(.agg a.toArray)] w (fun v w' => ∃ cs_1 : List Value, v = (.agg cs_1.toArray) ∧ RV3 w A_a cs_1) := by
  obtain ⟨r1, r3, r5, rfl, h2, h4, h6⟩ := hv_a
  refine enter [(.agg #[(Fl r1), (Fl r3), (Fl r5)]), Ud, Ud, Ud, Ud, Ud, Ud, Ud, Ud, Ud, Ud, Ud, Ud, Ud] Try.func55 rfl Try.ntmps55 rfl ?_
  refine wp_seq_k fun K7 hK7 => ?_
  refine wp_region_lit ?_
  refine seqd rfl rfl (does_box (u := (.agg #[(Fl r1), (Fl r3), (Fl r5)])) (ev rfl)) ?_; rintro _ w12 ⟨b8, rfl, hb9, hB10, E11⟩
  have g13 : w.heap.size ≤ b8 := Nat.le_trans (Below.size (Ext.refl w)) hb9
  change Blk _ _ [(Fl r1), (Fl r3), (Fl r5)] at hB10
  have X14 := Ext.gr (Ext.refl w) E11
  show wpList _ _ _ _ (fr [(.agg #[(Fl r1), (Fl r3), (Fl r5)]), (Pt b8 0), Ud, Ud, Ud, Ud, Ud, Ud, Ud, Ud, Ud, Ud, Ud, Ud]) _
  refine seqd rfl rfl (does_alloc z26) ?_; rintro _ w19 ⟨b15, rfl, hb16, hB17, E18⟩
  have n20 : b8 < b15 := Nat.lt_of_lt_of_le (Blk.lt hB10) hb16
  have g21 : w.heap.size ≤ b15 := Nat.le_trans (Below.size X14) hb16
  change Blk _ _ [(Fl 0), (Fl 0), (Fl 0)] at hB17
  have X22 := Ext.gr X14 E18
  show wpList _ _ _ _ (fr [(.agg #[(Fl r1), (Fl r3), (Fl r5)]), (Pt b8 0), (Pt b15 0), Ud, Ud, Ud, Ud, Ud, Ud, Ud, Ud, Ud, Ud, Ud]) _
  refine wpList_nil (hK7 _ _ ?_)
  refine wp_seq_k fun K23 hK23 => ?_
  refine wp_region_lit ?_
  refine seqd rfl rfl (does_alloc z26) ?_; rintro _ w28 ⟨b24, rfl, hb25, hB26, E27⟩
  have n29 : b8 < b24 := Nat.lt_of_lt_of_le (Blk.lt (hB10.ext E18)) hb25
  have n30 : b15 < b24 := Nat.lt_of_lt_of_le (Blk.lt hB17) hb25
  have g31 : w.heap.size ≤ b24 := Nat.le_trans (Below.size X22) hb25
  change Blk _ _ [(Fl 0), (Fl 0), (Fl 0)] at hB26
  have X32 := Ext.gr X22 E27
  show wpList _ _ _ _ (fr [(.agg #[(Fl r1), (Fl r3), (Fl r5)]), (Pt b8 0), (Pt b15 0), (Pt b24 0), Ud, Ud, Ud, Ud, Ud, Ud, Ud, Ud, Ud, Ud]) _
  refine wpList_nil (hK23 _ _ ?_)
  refine wp_seq_k fun K33 hK33 => ?_
  refine wp_region_lit ?_
  refine q_is (l' := [(.agg #[(Fl r1), (Fl r3), (Fl r5)]), (Pt b8 0), (Pt b15 0), (Pt b24 0), (Pt b8 0), Ud, Ud, Ud, Ud, Ud, Ud, Ud, Ud, Ud]) rfl rfl (does_fieldAddr (ev rfl) fa43_0) rfl ?_
  refine q_is (l' := [(.agg #[(Fl r1), (Fl r3), (Fl r5)]), (Pt b8 0), (Pt b15 0), (Pt b24 0), (Pt b8 0), (Fl r1), Ud, Ud, Ud, Ud, Ud, Ud, Ud, Ud]) rfl rfl (does_load (u := (Fl r1)) (ev rfl) Try.isAgg24 (Cells.at (Blk.cells ((hB10.ext E18).ext E27)) 0 rfl)) rfl ?_
  refine q_is (l' := [(.agg #[(Fl r1), (Fl r3), (Fl r5)]), (Pt b8 0), (Pt b15 0), (Pt b24 0), (Pt b8 0), (Fl r1), (Pt b24 0), Ud, Ud, Ud, Ud, Ud, Ud, Ud]) rfl rfl (does_fieldAddr (ev rfl) fa26_0) rfl ?_
  refine seqn rfl rfl (does_store (n := 1) (cs := [(Fl 0), (Fl 0), (Fl 0)]) (u := (Fl r1)) (ev rfl) (ev rfl) Try.sizeOf24 rfl hB26 (Nat.le_of_ble_eq_true rfl) rfl) ?_; rintro _ w36 ⟨rfl, W34, hB35⟩
  change Blk _ _ [(Fl r1), (Fl 0), (Fl 0)] at hB35
  have X37 := Below.wr X32 W34 g31
  refine wpList_nil (hK33 _ _ ?_)
  refine wp_seq_k fun K38 hK38 => ?_
  refine wp_region_lit ?_
  refine q_is (l' := [(.agg #[(Fl r1), (Fl r3), (Fl r5)]), (Pt b8 0), (Pt b15 0), (Pt b24 0), (Pt b8 0), (Fl r1), (Pt b24 0), (Pt b8 1), Ud, Ud, Ud, Ud, Ud, Ud]) rfl rfl (does_fieldAddr (ev rfl) fa43_1) rfl ?_
  refine q_is (l' := [(.agg #[(Fl r1), (Fl r3), (Fl r5)]), (Pt b8 0), (Pt b15 0), (Pt b24 0), (Pt b8 0), (Fl r1), (Pt b24 0), (Pt b8 1), (Fl r3), Ud, Ud, Ud, Ud, Ud]) rfl rfl (does_load (u := (Fl r3)) (ev rfl) Try.isAgg24 (Cells.at (Blk.cells (((hB10.ext E18).ext E27).wr W34 (Nat.ne_of_lt n29))) 1 rfl)) rfl ?_
  refine q_is (l' := [(.agg #[(Fl r1), (Fl r3), (Fl r5)]), (Pt b8 0), (Pt b15 0), (Pt b24 0), (Pt b8 0), (Fl r1), (Pt b24 0), (Pt b8 1), (Fl r3), (Pt b24 1), Ud, Ud, Ud, Ud]) rfl rfl (does_fieldAddr (ev rfl) fa26_1) rfl ?_
  refine seqn rfl rfl (does_store (n := 1) (cs := [(Fl r1), (Fl 0), (Fl 0)]) (u := (Fl r3)) (ev rfl) (ev rfl) Try.sizeOf24 rfl hB35 (Nat.le_of_ble_eq_true rfl) rfl) ?_; rintro _ w41 ⟨rfl, W39, hB40⟩
  change Blk _ _ [(Fl r1), (Fl r3), (Fl 0)] at hB40
  have X42 := Below.wr X37 W39 g31
  refine wpList_nil (hK38 _ _ ?_)
  refine wp_seq_k fun K43 hK43 => ?_
  refine wp_region_lit ?_
  refine q_is (l' := [(.agg #[(Fl r1), (Fl r3), (Fl r5)]), (Pt b8 0), (Pt b15 0), (Pt b24 0), (Pt b8 0), (Fl r1), (Pt b24 0), (Pt b8 1), (Fl r3), (Pt b24 1), (Pt b8 2), Ud, Ud, Ud]) rfl rfl (does_fieldAddr (ev rfl) fa43_2) rfl ?_
  refine q_is (l' := [(.agg #[(Fl r1), (Fl r3), (Fl r5)]), (Pt b8 0), (Pt b15 0), (Pt b24 0), (Pt b8 0), (Fl r1), (Pt b24 0), (Pt b8 1), (Fl r3), (Pt b24 1), (Pt b8 2), (Fl r5), Ud, Ud]) rfl rfl (does_load (u := (Fl r5)) (ev rfl) Try.isAgg24 (Cells.at (Blk.cells ((((hB10.ext E18).ext E27).wr W34 (Nat.ne_of_lt n29)).wr W39 (Nat.ne_of_lt n29))) 2 rfl)) rfl ?_
  refine q_is (l' := [(.agg #[(Fl r1), (Fl r3), (Fl r5)]), (Pt b8 0), (Pt b15 0), (Pt b24 0), (Pt b8 0), (Fl r1), (Pt b24 0), (Pt b8 1), (Fl r3), (Pt b24 1), (Pt b8 2), (Fl r5), (Pt b24 2), Ud]) rfl rfl (does_fieldAddr (ev rfl) fa26_2) rfl ?_
  refine seqn rfl rfl (does_store (n := 1) (cs := [(Fl r1), (Fl r3), (Fl 0)]) (u := (Fl r5)) (ev rfl) (ev rfl) Try.sizeOf24 rfl hB40 (Nat.le_of_ble_eq_true rfl) rfl) ?_; rintro _ w46 ⟨rfl, W44, hB45⟩
  change Blk _ _ [(Fl r1), (Fl r3), (Fl r5)] at hB45
  have X47 := Below.wr X42 W44 g31
  refine wpList_nil (hK43 _ _ ?_)
  refine wp_seq_k fun K48 hK48 => ?_
  refine wp_region_lit ?_
  refine q_is (l' := [(.agg #[(Fl r1), (Fl r3), (Fl r5)]), (Pt b8 0), (Pt b15 0), (Pt b24 0), (Pt b8 0), (Fl r1), (Pt b24 0), (Pt b8 1), (Fl r3), (Pt b24 1), (Pt b8 2), (Fl r5), (Pt b24 2), (.agg #[(Fl r1), (Fl r3), (Fl r5)])]) rfl rfl (does_loadAgg (cs := [(Fl r1), (Fl r3), (Fl r5)]) (ev rfl) Try.isAgg26 Try.sizeOf26 (Blk.cells hB45) rfl) rfl ?_
  refine seqn rfl rfl (does_store (n := 3) (cs := [(Fl 0), (Fl 0), (Fl 0)]) (u := (.agg #[(Fl r1), (Fl r3), (Fl r5)])) (ev rfl) (ev rfl) Try.sizeOf26 rfl ((((hB17.ext E27).wr W34 (Nat.ne_of_lt n30)).wr W39 (Nat.ne_of_lt n30)).wr W44 (Nat.ne_of_lt n30)) (Nat.le_of_ble_eq_true rfl) rfl) ?_; rintro _ w51 ⟨rfl, W49, hB50⟩
  change Blk _ _ [(Fl r1), (Fl r3), (Fl r5)] at hB50
  have X52 := Below.wr X47 W49 g21
  refine wpList_nil (hK48 _ _ ?_)
  refine wp_ret ?_
  refine ret_val (v := (.agg #[(Fl r1), (Fl r3), (Fl r5)])) (res_C rfl (slot rfl) (run_loadAgg (cs := [(Fl r1), (Fl r3), (Fl r5)]) Try.isAgg26 Try.sizeOf26 (Blk.cells hB50) rfl)) X52 ?_
  exact ⟨[(Fl r1), (Fl r3), (Fl r5)], rfl, ⟨r1, r3, r5, rfl, h2, h4, h6⟩⟩

/- laws.toCamera -/
theorem c_laws_toCamera (c : List Value) (A_c : CamT) (w : World) (hv_c : RCamT w A_c c) : Gives Try.prog 24 #[(.agg c.toArray)] w (fun v w' => ∃ cs_1 : List Value, v = (.agg cs_1.toArray) ∧ RCamT w A_c cs_1) := by
  obtain ⟨r1, r3, r5, r7, r9, r11, r13, rfl, h2, h4, h6, h8, h10, h12, h14⟩ := hv_c
  refine enter [(.agg #[(Fl r1), (Fl r3), (Fl r5), (Fl r7), (Fl r9), (Fl r11), (Fl r13), (Iv A_c.width), (Iv A_c.height)]), Ud, Ud, Ud, Ud, Ud, Ud, Ud, Ud, Ud, Ud, Ud, Ud, Ud, Ud, Ud, Ud, Ud, Ud, Ud, Ud, Ud] Try.func24 rfl Try.ntmps24 rfl ?_
  refine wp_seq_k fun K15 hK15 => ?_
  refine wp_region_lit ?_
  refine seqd rfl rfl (does_box (u := (.agg #[(Fl r1), (Fl r3), (Fl r5), (Fl r7), (Fl r9), (Fl r11), (Fl r13), (Iv A_c.width), (Iv A_c.height)])) (ev rfl)) ?_; rintro _ w20 ⟨b16, rfl, hb17, hB18, E19⟩
  have g21 : w.heap.size ≤ b16 := Nat.le_trans (Below.size (Ext.refl w)) hb17
  change Blk _ _ [(Fl r1), (Fl r3), (Fl r5), (Fl r7), (Fl r9), (Fl r11), (Fl r13), (Iv A_c.width), (Iv A_c.height)] at hB18
  have X22 := Ext.gr (Ext.refl w) E19
  show wpList _ _ _ _ (fr [(.agg #[(Fl r1), (Fl r3), (Fl r5), (Fl r7), (Fl r9), (Fl r11), (Fl r13), (Iv A_c.width), (Iv A_c.height)]), (Pt b16 0), Ud, Ud, Ud, Ud, Ud, Ud, Ud, Ud, Ud, Ud, Ud, Ud, Ud, Ud, Ud, Ud, Ud, Ud, Ud, Ud]) _
  refine seqd rfl rfl (does_alloc z48) ?_; rintro _ w27 ⟨b23, rfl, hb24, hB25, E26⟩
  have n28 : b16 < b23 := Nat.lt_of_lt_of_le (Blk.lt hB18) hb24
  have g29 : w.heap.size ≤ b23 := Nat.le_trans (Below.size X22) hb24
  change Blk _ _ [(Fl 0), (Fl 0), (Fl 0), (Fl 0), (Fl 0), (Fl 0), (Fl 0), (Iv 0), (Iv 0)] at hB25
  have X30 := Ext.gr X22 E26
  show wpList _ _ _ _ (fr [(.agg #[(Fl r1), (Fl r3), (Fl r5), (Fl r7), (Fl r9), (Fl r11), (Fl r13), (Iv A_c.width), (Iv A_c.height)]), (Pt b16 0), (Pt b23 0), Ud, Ud, Ud, Ud, Ud, Ud, Ud, Ud, Ud, Ud, Ud, Ud, Ud, Ud, Ud, Ud, Ud, Ud, Ud]) _
  refine wpList_nil (hK15 _ _ ?_)
  refine wp_seq_k fun K31 hK31 => ?_
  refine wp_region_lit ?_
  refine seqd rfl rfl (does_alloc z48) ?_; rintro _ w36 ⟨b32, rfl, hb33, hB34, E35⟩
  have n37 : b16 < b32 := Nat.lt_of_lt_of_le (Blk.lt (hB18.ext E26)) hb33
  have n38 : b23 < b32 := Nat.lt_of_lt_of_le (Blk.lt hB25) hb33
  have g39 : w.heap.size ≤ b32 := Nat.le_trans (Below.size X30) hb33
  change Blk _ _ [(Fl 0), (Fl 0), (Fl 0), (Fl 0), (Fl 0), (Fl 0), (Fl 0), (Iv 0), (Iv 0)] at hB34
  have X40 := Ext.gr X30 E35
  show wpList _ _ _ _ (fr [(.agg #[(Fl r1), (Fl r3), (Fl r5), (Fl r7), (Fl r9), (Fl r11), (Fl r13), (Iv A_c.width), (Iv A_c.height)]), (Pt b16 0), (Pt b23 0), (Pt b32 0), Ud, Ud, Ud, Ud, Ud, Ud, Ud, Ud, Ud, Ud, Ud, Ud, Ud, Ud, Ud, Ud, Ud, Ud]) _
  refine wpList_nil (hK31 _ _ ?_)
  refine wp_seq_k fun K41 hK41 => ?_
  refine wp_region_lit ?_
  refine q_is (l' := [(.agg #[(Fl r1), (Fl r3), (Fl r5), (Fl r7), (Fl r9), (Fl r11), (Fl r13), (Iv A_c.width), (Iv A_c.height)]), (Pt b16 0), (Pt b23 0), (Pt b32 0), (Pt b16 0), Ud, Ud, Ud, Ud, Ud, Ud, Ud, Ud, Ud, Ud, Ud, Ud, Ud, Ud, Ud, Ud, Ud]) rfl rfl (does_fieldAddr (ev rfl) fa45_0) rfl ?_
  refine q_is (l' := [(.agg #[(Fl r1), (Fl r3), (Fl r5), (Fl r7), (Fl r9), (Fl r11), (Fl r13), (Iv A_c.width), (Iv A_c.height)]), (Pt b16 0), (Pt b23 0), (Pt b32 0), (Pt b16 0), (.agg #[(Fl r1), (Fl r3), (Fl r5)]), Ud, Ud, Ud, Ud, Ud, Ud, Ud, Ud, Ud, Ud, Ud, Ud, Ud, Ud, Ud, Ud]) rfl rfl (does_loadAgg (cs := [(Fl r1), (Fl r3), (Fl r5)]) (ev rfl) Try.isAgg43 Try.sizeOf43 (Cells.sub (Blk.cells ((hB18.ext E26).ext E35)) 0 3) rfl) rfl ?_
  refine seqd rfl rfl (does_call (args := #[(.agg #[(Fl r1), (Fl r3), (Fl r5)])]) cal55 (evs rfl) (c_laws_toVector [(Fl r1), (Fl r3), (Fl r5)] A_c.frm _ ⟨r1, r3, r5, rfl, h2, h4, h6⟩)) ?_; rintro _ w43 ⟨E42, ⟨_, rfl, ⟨r44, r46, r48, rfl, h45, h47, h49⟩⟩⟩
  have X50 := Ext.gr X40 E42
  show wpList _ _ _ _ (fr [(.agg #[(Fl r1), (Fl r3), (Fl r5), (Fl r7), (Fl r9), (Fl r11), (Fl r13), (Iv A_c.width), (Iv A_c.height)]), (Pt b16 0), (Pt b23 0), (Pt b32 0), (Pt b16 0), (.agg #[(Fl r1), (Fl r3), (Fl r5)]), (.agg #[(Fl r44), (Fl r46), (Fl r48)]), Ud, Ud, Ud, Ud, Ud, Ud, Ud, Ud, Ud, Ud, Ud, Ud, Ud, Ud, Ud]) _
  refine q_is (l' := [(.agg #[(Fl r1), (Fl r3), (Fl r5), (Fl r7), (Fl r9), (Fl r11), (Fl r13), (Iv A_c.width), (Iv A_c.height)]), (Pt b16 0), (Pt b23 0), (Pt b32 0), (Pt b16 0), (.agg #[(Fl r1), (Fl r3), (Fl r5)]), (.agg #[(Fl r44), (Fl r46), (Fl r48)]), (Pt b32 0), Ud, Ud, Ud, Ud, Ud, Ud, Ud, Ud, Ud, Ud, Ud, Ud, Ud, Ud]) rfl rfl (does_fieldAddr (ev rfl) fa48_0) rfl ?_
  refine seqn rfl rfl (does_store (n := 3) (cs := [(Fl 0), (Fl 0), (Fl 0), (Fl 0), (Fl 0), (Fl 0), (Fl 0), (Iv 0), (Iv 0)]) (u := (.agg #[(Fl r44), (Fl r46), (Fl r48)])) (ev rfl) (ev rfl) Try.sizeOf26 rfl (hB34.ext E42) (Nat.le_of_ble_eq_true rfl) rfl) ?_; rintro _ w53 ⟨rfl, W51, hB52⟩
  change Blk _ _ [(Fl r44), (Fl r46), (Fl r48), (Fl 0), (Fl 0), (Fl 0), (Fl 0), (Iv 0), (Iv 0)] at hB52
  have X54 := Below.wr X50 W51 g39
  refine wpList_nil (hK41 _ _ ?_)
  refine wp_seq_k fun K55 hK55 => ?_
  refine wp_region_lit ?_
  refine q_is (l' := [(.agg #[(Fl r1), (Fl r3), (Fl r5), (Fl r7), (Fl r9), (Fl r11), (Fl r13), (Iv A_c.width), (Iv A_c.height)]), (Pt b16 0), (Pt b23 0), (Pt b32 0), (Pt b16 0), (.agg #[(Fl r1), (Fl r3), (Fl r5)]), (.agg #[(Fl r44), (Fl r46), (Fl r48)]), (Pt b32 0), (Pt b16 3), Ud, Ud, Ud, Ud, Ud, Ud, Ud, Ud, Ud, Ud, Ud, Ud, Ud]) rfl rfl (does_fieldAddr (ev rfl) fa45_1) rfl ?_
  refine q_is (l' := [(.agg #[(Fl r1), (Fl r3), (Fl r5), (Fl r7), (Fl r9), (Fl r11), (Fl r13), (Iv A_c.width), (Iv A_c.height)]), (Pt b16 0), (Pt b23 0), (Pt b32 0), (Pt b16 0), (.agg #[(Fl r1), (Fl r3), (Fl r5)]), (.agg #[(Fl r44), (Fl r46), (Fl r48)]), (Pt b32 0), (Pt b16 3), (.agg #[(Fl r7), (Fl r9), (Fl r11)]), Ud, Ud, Ud, Ud, Ud, Ud, Ud, Ud, Ud, Ud, Ud, Ud]) rfl rfl (does_loadAgg (cs := [(Fl r7), (Fl r9), (Fl r11)]) (ev rfl) Try.isAgg43 Try.sizeOf43 (Cells.sub (Blk.cells ((((hB18.ext E26).ext E35).ext E42).wr W51 (Nat.ne_of_lt n37))) 3 3) rfl) rfl ?_
  refine seqd rfl rfl (does_call (args := #[(.agg #[(Fl r7), (Fl r9), (Fl r11)])]) cal55 (evs rfl) (c_laws_toVector [(Fl r7), (Fl r9), (Fl r11)] A_c.to _ ⟨r7, r9, r11, rfl, h8, h10, h12⟩)) ?_; rintro _ w57 ⟨E56, ⟨_, rfl, ⟨r58, r60, r62, rfl, h59, h61, h63⟩⟩⟩
  have X64 := Ext.gr X54 E56
  show wpList _ _ _ _ (fr [(.agg #[(Fl r1), (Fl r3), (Fl r5), (Fl r7), (Fl r9), (Fl r11), (Fl r13), (Iv A_c.width), (Iv A_c.height)]), (Pt b16 0), (Pt b23 0), (Pt b32 0), (Pt b16 0), (.agg #[(Fl r1), (Fl r3), (Fl r5)]), (.agg #[(Fl r44), (Fl r46), (Fl r48)]), (Pt b32 0), (Pt b16 3), (.agg #[(Fl r7), (Fl r9), (Fl r11)]), (.agg #[(Fl r58), (Fl r60), (Fl r62)]), Ud, Ud, Ud, Ud, Ud, Ud, Ud, Ud, Ud, Ud, Ud]) _
  refine q_is (l' := [(.agg #[(Fl r1), (Fl r3), (Fl r5), (Fl r7), (Fl r9), (Fl r11), (Fl r13), (Iv A_c.width), (Iv A_c.height)]), (Pt b16 0), (Pt b23 0), (Pt b32 0), (Pt b16 0), (.agg #[(Fl r1), (Fl r3), (Fl r5)]), (.agg #[(Fl r44), (Fl r46), (Fl r48)]), (Pt b32 0), (Pt b16 3), (.agg #[(Fl r7), (Fl r9), (Fl r11)]), (.agg #[(Fl r58), (Fl r60), (Fl r62)]), (Pt b32 3), Ud, Ud, Ud, Ud, Ud, Ud, Ud, Ud, Ud, Ud]) rfl rfl (does_fieldAddr (ev rfl) fa48_1) rfl ?_
  refine seqn rfl rfl (does_store (n := 3) (cs := [(Fl r44), (Fl r46), (Fl r48), (Fl 0), (Fl 0), (Fl 0), (Fl 0), (Iv 0), (Iv 0)]) (u := (.agg #[(Fl r58), (Fl r60), (Fl r62)])) (ev rfl) (ev rfl) Try.sizeOf26 rfl (hB52.ext E56) (Nat.le_of_ble_eq_true rfl) rfl) ?_; rintro _ w67 ⟨rfl, W65, hB66⟩
  change Blk _ _ [(Fl r44), (Fl r46), (Fl r48), (Fl r58), (Fl r60), (Fl r62), (Fl 0), (Iv 0), (Iv 0)] at hB66
  have X68 := Below.wr X64 W65 g39
  refine wpList_nil (hK55 _ _ ?_)
  refine wp_seq_k fun K69 hK69 => ?_
  refine wp_region_lit ?_
  refine q_is (l' := [(.agg #[(Fl r1), (Fl r3), (Fl r5), (Fl r7), (Fl r9), (Fl r11), (Fl r13), (Iv A_c.width), (Iv A_c.height)]), (Pt b16 0), (Pt b23 0), (Pt b32 0), (Pt b16 0), (.agg #[(Fl r1), (Fl r3), (Fl r5)]), (.agg #[(Fl r44), (Fl r46), (Fl r48)]), (Pt b32 0), (Pt b16 3), (.agg #[(Fl r7), (Fl r9), (Fl r11)]), (.agg #[(Fl r58), (Fl r60), (Fl r62)]), (Pt b32 3), (Pt b16 6), Ud, Ud, Ud, Ud, Ud, Ud, Ud, Ud, Ud]) rfl rfl (does_fieldAddr (ev rfl) fa45_2) rfl ?_
  refine q_is (l' := [(.agg #[(Fl r1), (Fl r3), (Fl r5), (Fl r7), (Fl r9), (Fl r11), (Fl r13), (Iv A_c.width), (Iv A_c.height)]), (Pt b16 0), (Pt b23 0), (Pt b32 0), (Pt b16 0), (.agg #[(Fl r1), (Fl r3), (Fl r5)]), (.agg #[(Fl r44), (Fl r46), (Fl r48)]), (Pt b32 0), (Pt b16 3), (.agg #[(Fl r7), (Fl r9), (Fl r11)]), (.agg #[(Fl r58), (Fl r60), (Fl r62)]), (Pt b32 3), (Pt b16 6), (Fl r13), Ud, Ud, Ud, Ud, Ud, Ud, Ud, Ud]) rfl rfl (does_load (u := (Fl r13)) (ev rfl) Try.isAgg24 (Cells.at (Blk.cells ((((((hB18.ext E26).ext E35).ext E42).wr W51 (Nat.ne_of_lt n37)).ext E56).wr W65 (Nat.ne_of_lt n37))) 6 rfl)) rfl ?_
  refine q_is (l' := [(.agg #[(Fl r1), (Fl r3), (Fl r5), (Fl r7), (Fl r9), (Fl r11), (Fl r13), (Iv A_c.width), (Iv A_c.height)]), (Pt b16 0), (Pt b23 0), (Pt b32 0), (Pt b16 0), (.agg #[(Fl r1), (Fl r3), (Fl r5)]), (.agg #[(Fl r44), (Fl r46), (Fl r48)]), (Pt b32 0), (Pt b16 3), (.agg #[(Fl r7), (Fl r9), (Fl r11)]), (.agg #[(Fl r58), (Fl r60), (Fl r62)]), (Pt b32 3), (Pt b16 6), (Fl r13), (Pt b32 6), Ud, Ud, Ud, Ud, Ud, Ud, Ud]) rfl rfl (does_fieldAddr (ev rfl) fa48_2) rfl ?_
  refine seqn rfl rfl (does_store (n := 1) (cs := [(Fl r44), (Fl r46), (Fl r48), (Fl r58), (Fl r60), (Fl r62), (Fl 0), (Iv 0), (Iv 0)]) (u := (Fl r13)) (ev rfl) (ev rfl) Try.sizeOf24 rfl hB66 (Nat.le_of_ble_eq_true rfl) rfl) ?_; rintro _ w72 ⟨rfl, W70, hB71⟩
  change Blk _ _ [(Fl r44), (Fl r46), (Fl r48), (Fl r58), (Fl r60), (Fl r62), (Fl r13), (Iv 0), (Iv 0)] at hB71
  have X73 := Below.wr X68 W70 g39
  refine wpList_nil (hK69 _ _ ?_)
  refine wp_seq_k fun K74 hK74 => ?_
  refine wp_region_lit ?_
  refine q_is (l' := [(.agg #[(Fl r1), (Fl r3), (Fl r5), (Fl r7), (Fl r9), (Fl r11), (Fl r13), (Iv A_c.width), (Iv A_c.height)]), (Pt b16 0), (Pt b23 0), (Pt b32 0), (Pt b16 0), (.agg #[(Fl r1), (Fl r3), (Fl r5)]), (.agg #[(Fl r44), (Fl r46), (Fl r48)]), (Pt b32 0), (Pt b16 3), (.agg #[(Fl r7), (Fl r9), (Fl r11)]), (.agg #[(Fl r58), (Fl r60), (Fl r62)]), (Pt b32 3), (Pt b16 6), (Fl r13), (Pt b32 6), (Pt b16 7), Ud, Ud, Ud, Ud, Ud, Ud]) rfl rfl (does_fieldAddr (ev rfl) fa45_3) rfl ?_
  refine q_is (l' := [(.agg #[(Fl r1), (Fl r3), (Fl r5), (Fl r7), (Fl r9), (Fl r11), (Fl r13), (Iv A_c.width), (Iv A_c.height)]), (Pt b16 0), (Pt b23 0), (Pt b32 0), (Pt b16 0), (.agg #[(Fl r1), (Fl r3), (Fl r5)]), (.agg #[(Fl r44), (Fl r46), (Fl r48)]), (Pt b32 0), (Pt b16 3), (.agg #[(Fl r7), (Fl r9), (Fl r11)]), (.agg #[(Fl r58), (Fl r60), (Fl r62)]), (Pt b32 3), (Pt b16 6), (Fl r13), (Pt b32 6), (Pt b16 7), (Iv A_c.width), Ud, Ud, Ud, Ud, Ud]) rfl rfl (does_load (u := (Iv A_c.width)) (ev rfl) Try.isAgg2 (Cells.at (Blk.cells (((((((hB18.ext E26).ext E35).ext E42).wr W51 (Nat.ne_of_lt n37)).ext E56).wr W65 (Nat.ne_of_lt n37)).wr W70 (Nat.ne_of_lt n37))) 7 rfl)) rfl ?_
  refine q_is (l' := [(.agg #[(Fl r1), (Fl r3), (Fl r5), (Fl r7), (Fl r9), (Fl r11), (Fl r13), (Iv A_c.width), (Iv A_c.height)]), (Pt b16 0), (Pt b23 0), (Pt b32 0), (Pt b16 0), (.agg #[(Fl r1), (Fl r3), (Fl r5)]), (.agg #[(Fl r44), (Fl r46), (Fl r48)]), (Pt b32 0), (Pt b16 3), (.agg #[(Fl r7), (Fl r9), (Fl r11)]), (.agg #[(Fl r58), (Fl r60), (Fl r62)]), (Pt b32 3), (Pt b16 6), (Fl r13), (Pt b32 6), (Pt b16 7), (Iv A_c.width), (Pt b32 7), Ud, Ud, Ud, Ud]) rfl rfl (does_fieldAddr (ev rfl) fa48_3) rfl ?_
  refine seqn rfl rfl (does_store (n := 1) (cs := [(Fl r44), (Fl r46), (Fl r48), (Fl r58), (Fl r60), (Fl r62), (Fl r13), (Iv 0), (Iv 0)]) (u := (Iv A_c.width)) (ev rfl) (ev rfl) Try.sizeOf2 rfl hB71 (Nat.le_of_ble_eq_true rfl) rfl) ?_; rintro _ w77 ⟨rfl, W75, hB76⟩
  change Blk _ _ [(Fl r44), (Fl r46), (Fl r48), (Fl r58), (Fl r60), (Fl r62), (Fl r13), (Iv A_c.width), (Iv 0)] at hB76
  have X78 := Below.wr X73 W75 g39
  refine wpList_nil (hK74 _ _ ?_)
  refine wp_seq_k fun K79 hK79 => ?_
  refine wp_region_lit ?_
  refine q_is (l' := [(.agg #[(Fl r1), (Fl r3), (Fl r5), (Fl r7), (Fl r9), (Fl r11), (Fl r13), (Iv A_c.width), (Iv A_c.height)]), (Pt b16 0), (Pt b23 0), (Pt b32 0), (Pt b16 0), (.agg #[(Fl r1), (Fl r3), (Fl r5)]), (.agg #[(Fl r44), (Fl r46), (Fl r48)]), (Pt b32 0), (Pt b16 3), (.agg #[(Fl r7), (Fl r9), (Fl r11)]), (.agg #[(Fl r58), (Fl r60), (Fl r62)]), (Pt b32 3), (Pt b16 6), (Fl r13), (Pt b32 6), (Pt b16 7), (Iv A_c.width), (Pt b32 7), (Pt b16 8), Ud, Ud, Ud]) rfl rfl (does_fieldAddr (ev rfl) fa45_4) rfl ?_
  refine q_is (l' := [(.agg #[(Fl r1), (Fl r3), (Fl r5), (Fl r7), (Fl r9), (Fl r11), (Fl r13), (Iv A_c.width), (Iv A_c.height)]), (Pt b16 0), (Pt b23 0), (Pt b32 0), (Pt b16 0), (.agg #[(Fl r1), (Fl r3), (Fl r5)]), (.agg #[(Fl r44), (Fl r46), (Fl r48)]), (Pt b32 0), (Pt b16 3), (.agg #[(Fl r7), (Fl r9), (Fl r11)]), (.agg #[(Fl r58), (Fl r60), (Fl r62)]), (Pt b32 3), (Pt b16 6), (Fl r13), (Pt b32 6), (Pt b16 7), (Iv A_c.width), (Pt b32 7), (Pt b16 8), (Iv A_c.height), Ud, Ud]) rfl rfl (does_load (u := (Iv A_c.height)) (ev rfl) Try.isAgg2 (Cells.at (Blk.cells ((((((((hB18.ext E26).ext E35).ext E42).wr W51 (Nat.ne_of_lt n37)).ext E56).wr W65 (Nat.ne_of_lt n37)).wr W70 (Nat.ne_of_lt n37)).wr W75 (Nat.ne_of_lt n37))) 8 rfl)) rfl ?_
  refine q_is (l' := [(.agg #[(Fl r1), (Fl r3), (Fl r5), (Fl r7), (Fl r9), (Fl r11), (Fl r13), (Iv A_c.width), (Iv A_c.height)]), (Pt b16 0), (Pt b23 0), (Pt b32 0), (Pt b16 0), (.agg #[(Fl r1), (Fl r3), (Fl r5)]), (.agg #[(Fl r44), (Fl r46), (Fl r48)]), (Pt b32 0), (Pt b16 3), (.agg #[(Fl r7), (Fl r9), (Fl r11)]), (.agg #[(Fl r58), (Fl r60), (Fl r62)]), (Pt b32 3), (Pt b16 6), (Fl r13), (Pt b32 6), (Pt b16 7), (Iv A_c.width), (Pt b32 7), (Pt b16 8), (Iv A_c.height), (Pt b32 8), Ud]) rfl rfl (does_fieldAddr (ev rfl) fa48_4) rfl ?_
  refine seqn rfl rfl (does_store (n := 1) (cs := [(Fl r44), (Fl r46), (Fl r48), (Fl r58), (Fl r60), (Fl r62), (Fl r13), (Iv A_c.width), (Iv 0)]) (u := (Iv A_c.height)) (ev rfl) (ev rfl) Try.sizeOf2 rfl hB76 (Nat.le_of_ble_eq_true rfl) rfl) ?_; rintro _ w82 ⟨rfl, W80, hB81⟩
  change Blk _ _ [(Fl r44), (Fl r46), (Fl r48), (Fl r58), (Fl r60), (Fl r62), (Fl r13), (Iv A_c.width), (Iv A_c.height)] at hB81
  have X83 := Below.wr X78 W80 g39
  refine wpList_nil (hK79 _ _ ?_)
  refine wp_seq_k fun K84 hK84 => ?_
  refine wp_region_lit ?_
  refine q_is (l' := [(.agg #[(Fl r1), (Fl r3), (Fl r5), (Fl r7), (Fl r9), (Fl r11), (Fl r13), (Iv A_c.width), (Iv A_c.height)]), (Pt b16 0), (Pt b23 0), (Pt b32 0), (Pt b16 0), (.agg #[(Fl r1), (Fl r3), (Fl r5)]), (.agg #[(Fl r44), (Fl r46), (Fl r48)]), (Pt b32 0), (Pt b16 3), (.agg #[(Fl r7), (Fl r9), (Fl r11)]), (.agg #[(Fl r58), (Fl r60), (Fl r62)]), (Pt b32 3), (Pt b16 6), (Fl r13), (Pt b32 6), (Pt b16 7), (Iv A_c.width), (Pt b32 7), (Pt b16 8), (Iv A_c.height), (Pt b32 8), (.agg #[(Fl r44), (Fl r46), (Fl r48), (Fl r58), (Fl r60), (Fl r62), (Fl r13), (Iv A_c.width), (Iv A_c.height)])]) rfl rfl (does_loadAgg (cs := [(Fl r44), (Fl r46), (Fl r48), (Fl r58), (Fl r60), (Fl r62), (Fl r13), (Iv A_c.width), (Iv A_c.height)]) (ev rfl) Try.isAgg48 Try.sizeOf48 (Blk.cells hB81) rfl) rfl ?_
  refine seqn rfl rfl (does_store (n := 9) (cs := [(Fl 0), (Fl 0), (Fl 0), (Fl 0), (Fl 0), (Fl 0), (Fl 0), (Iv 0), (Iv 0)]) (u := (.agg #[(Fl r44), (Fl r46), (Fl r48), (Fl r58), (Fl r60), (Fl r62), (Fl r13), (Iv A_c.width), (Iv A_c.height)])) (ev rfl) (ev rfl) Try.sizeOf48 rfl ((((((((hB25.ext E35).ext E42).wr W51 (Nat.ne_of_lt n38)).ext E56).wr W65 (Nat.ne_of_lt n38)).wr W70 (Nat.ne_of_lt n38)).wr W75 (Nat.ne_of_lt n38)).wr W80 (Nat.ne_of_lt n38)) (Nat.le_of_ble_eq_true rfl) rfl) ?_; rintro _ w87 ⟨rfl, W85, hB86⟩
  change Blk _ _ [(Fl r44), (Fl r46), (Fl r48), (Fl r58), (Fl r60), (Fl r62), (Fl r13), (Iv A_c.width), (Iv A_c.height)] at hB86
  have X88 := Below.wr X83 W85 g29
  refine wpList_nil (hK84 _ _ ?_)
  refine wp_ret ?_
  refine ret_val (v := (.agg #[(Fl r44), (Fl r46), (Fl r48), (Fl r58), (Fl r60), (Fl r62), (Fl r13), (Iv A_c.width), (Iv A_c.height)])) (res_C rfl (slot rfl) (run_loadAgg (cs := [(Fl r44), (Fl r46), (Fl r48), (Fl r58), (Fl r60), (Fl r62), (Fl r13), (Iv A_c.width), (Iv A_c.height)]) Try.isAgg48 Try.sizeOf48 (Blk.cells hB86) rfl)) X88 ?_
  exact ⟨[(Fl r44), (Fl r46), (Fl r48), (Fl r58), (Fl r60), (Fl r62), (Fl r13), (Iv A_c.width), (Iv A_c.height)], rfl, ⟨r44, r46, r48, r58, r60, r62, r13, rfl, h45, h47, h49, h59, h61, h63, h14⟩⟩

/- spec.l01Finite -/
theorem c_spec_l01Finite (x : Nat) (w : World) : Gives Try.prog 94 #[(Fl x)] w (fun v w' => v = (Bo (finF (cf .f32 x)))) := by
  refine enter [(Fl x), Ud, Ud, Ud, Ud, Ud, Ud] Try.func94 rfl Try.ntmps94 rfl ?_
  refine wp_seq_k fun K1 hK1 => ?_
  refine wp_region_lit ?_
  refine q_is (l' := [(Fl x), Ud, (Bo false), Ud, Ud, Ud, Ud]) rfl rfl (does_assign (u := (Bo false)) (ev rfl)) rfl ?_
  refine wpList_nil (hK1 _ _ ?_)
  refine wp_seq_k fun K2 hK2 => ?_
  refine wp_region_lit ?_
  refine q_is (l' := [(Fl x), Ud, (Bo false), (Fl x), Ud, Ud, Ud]) rfl rfl (does_move (u := (Fl x)) (ev rfl)) rfl ?_
  refine q_is (l' := [(Fl x), Ud, (Bo false), (Fl x), (Fl x), Ud, Ud]) rfl rfl (does_move (u := (Fl x)) (ev rfl)) rfl ?_
  refine seqd rfl rfl (does_float (.inr (.inl rfl)) (ev rfl) (ev rfl)) ?_; rintro _ w6 ⟨r3, rfl, h4, E5⟩
  have X7 := Ext.gr (Ext.refl w) E5
  show wpList _ _ _ _ (fr [(Fl x), Ud, (Bo false), (Fl x), (Fl x), (Fl r3), Ud]) _
  refine q_is (l' := [(Fl x), Ud, (Bo false), (Fl x), (Fl x), (Fl r3), (Bo (fcmp .eql (ford .f32 (cf .f32 r3) (cf .f32 0))))]) rfl rfl (does_fcmp (.inl rfl) (ev rfl) (ev rfl)) rfl ?_
  refine q_is (l' := [(Fl x), Ud, (Bo (fcmp .eql (ford .f32 (cf .f32 r3) (cf .f32 0)))), (Fl x), (Fl x), (Fl r3), (Bo (fcmp .eql (ford .f32 (cf .f32 r3) (cf .f32 0))))]) rfl rfl (does_assign (u := (Bo (fcmp .eql (ford .f32 (cf .f32 r3) (cf .f32 0))))) (ev rfl)) rfl ?_
  refine wpList_nil (hK2 _ _ ?_)
  refine wp_ret ?_
  refine ret_val (v := (Bo (fcmp .eql (ford .f32 (cf .f32 r3) (cf .f32 0))))) (res_T rfl (slot rfl)) X7 ?_
  have x8 : (finF (cf .f32 x)) = (fcmp .eql (ford .f32 (cf .f32 r3) (cf .f32 0))) := by first | with_reducible rfl | (simp only [finF, h4]; done) | (simp [finF, h4]; done) | rfl
  exact (by first | rfl | rw [x8])

/- spec.l01VFinite -/
theorem c_spec_l01VFinite (v : List Value) (A_v : V3) (w : World) (hv_v : RV3 w A_v v) : Gives Try.prog 52 #[(.agg v.toArray)] w (fun v w' => v = (Bo (finV A_v))) := by
  obtain ⟨r1, r3, r5, rfl, h2, h4, h6⟩ := hv_v
  refine enter [(.agg #[(Fl r1), (Fl r3), (Fl r5)]), Ud, Ud, Ud, Ud, Ud, Ud, Ud, Ud, Ud, Ud, Ud, Ud, Ud, Ud, Ud] Try.func52 rfl Try.ntmps52 rfl ?_
  refine wp_seq_k fun K7 hK7 => ?_
  refine wp_region_lit ?_
  refine seqd rfl rfl (does_box (u := (.agg #[(Fl r1), (Fl r3), (Fl r5)])) (ev rfl)) ?_; rintro _ w12 ⟨b8, rfl, hb9, hB10, E11⟩
  have g13 : w.heap.size ≤ b8 := Nat.le_trans (Below.size (Ext.refl w)) hb9
  change Blk _ _ [(Fl r1), (Fl r3), (Fl r5)] at hB10
  have X14 := Ext.gr (Ext.refl w) E11
  show wpList _ _ _ _ (fr [(.agg #[(Fl r1), (Fl r3), (Fl r5)]), (Pt b8 0), Ud, Ud, Ud, Ud, Ud, Ud, Ud, Ud, Ud, Ud, Ud, Ud, Ud, Ud]) _
  refine q_is (l' := [(.agg #[(Fl r1), (Fl r3), (Fl r5)]), (Pt b8 0), (Bo false), Ud, Ud, Ud, Ud, Ud, Ud, Ud, Ud, Ud, Ud, Ud, Ud, Ud]) rfl rfl (does_assign (u := (Bo false)) (ev rfl)) rfl ?_
  refine wpList_nil (hK7 _ _ ?_)
  refine wp_seq_k fun K15 hK15 => ?_
  obtain ⟨β1, hβ1⟩ : ∃ b : Bool, b = ((finF (cf .f32 r1)) && (finF (cf .f32 r3))) := ⟨_, rfl⟩
  obtain ⟨β2, hβ2⟩ : ∃ b : Bool, b = (β1 && (finF (cf .f32 r5))) := ⟨_, rfl⟩
  refine region_text (
    [Fact.pure [] (fun v => v = (Pt b8 0)),
    Fact.pure [3] (fun v => v = (Fl r1)),
    Fact.pure [4] (fun v => v = (Bo (finF (cf .f32 r1)))),
    Fact.pure [5] (fun v => v = (Bo (finF (cf .f32 r1)))),
    Fact.pure [6] (fun v => (finF (cf .f32 r1)) = true → v = (Pt b8 1)),
    Fact.pure [7, 6] (fun v => (finF (cf .f32 r1)) = true → v = (Fl r3)),
    Fact.pure [8, 6] (fun v => (finF (cf .f32 r1)) = true → v = (Bo (finF (cf .f32 r3)))),
    Fact.pure [6, 9] (fun v => v = (Bo β1)),
    Fact.pure [10] (fun v => v = (Bo β1)),
    Fact.pure [11] (fun v => β1 = true → v = (Pt b8 2)),
    Fact.pure [12, 11] (fun v => β1 = true → v = (Fl r5)),
    Fact.pure [13, 11] (fun v => β1 = true → v = (Bo (finF (cf .f32 r5)))),
    Fact.pure [11, 14] (fun v => v = (Bo β2))]) (by simp [Fact.pure, Fact.mem]) ?_
  refine RW_d (fun v16 => [(.agg #[(Fl r1), (Fl r3), (Fl r5)]), (Pt b8 0), (Bo false), v16, Ud, Ud, Ud, Ud, Ud, Ud, Ud, Ud, Ud, Ud, Ud, Ud]) rfl (fun _ => rfl) (fun u hu hF => ?_) (fun v16 => ?_)
  · clear hF
    refine doesG_un rfl ?_
    refine (does_fieldAddr (ev rfl) fa26_0).mono ?_; rintro _ _ ⟨rfl, rfl⟩
    exact ⟨rfl, Ext.refl _⟩
  refine RW_d (fun v17 => [(.agg #[(Fl r1), (Fl r3), (Fl r5)]), (Pt b8 0), (Bo false), v16, v17, Ud, Ud, Ud, Ud, Ud, Ud, Ud, Ud, Ud, Ud, Ud]) rfl (fun _ => rfl) (fun u hu hF => ?_) (fun v17 => ?_)
  · have h3_ : v16 = (Pt b8 0) := hF.1
    clear hF
    refine doesG_un rfl ?_
    obtain rfl := h3_
    refine (does_load (u := (Fl r1)) (ev rfl) Try.isAgg24 (Cells.at (Blk.cells (hB10.ext hu)) 0 rfl)).mono ?_; rintro _ _ ⟨rfl, rfl⟩
    exact ⟨rfl, Ext.refl _⟩
  refine RW_d (fun v18 => [(.agg #[(Fl r1), (Fl r3), (Fl r5)]), (Pt b8 0), (Bo false), v16, v17, v18, Ud, Ud, Ud, Ud, Ud, Ud, Ud, Ud, Ud, Ud]) rfl (fun _ => rfl) (fun u hu hF => ?_) (fun v18 => ?_)
  · have h4_ : v17 = (Fl r1) := hF.1
    clear hF
    refine doesG_un rfl ?_
    obtain rfl := h4_
    refine (does_call (args := #[(Fl r1)]) cal94 (evs rfl) (c_spec_l01Finite r1 _)).mono ?_; rintro v u' ⟨hx, hv⟩
    exact ⟨hv, hx⟩
  refine RW_d (fun v19 => [(.agg #[(Fl r1), (Fl r3), (Fl r5)]), (Pt b8 0), (Bo false), v16, v17, v18, v19, Ud, Ud, Ud, Ud, Ud, Ud, Ud, Ud, Ud]) rfl (fun _ => rfl) (fun u hu hF => ?_) (fun v19 => ?_)
  · have h5_ : v18 = (Bo (finF (cf .f32 r1))) := hF.1
    clear hF
    refine doesG_un rfl ?_
    obtain rfl := h5_
    refine (does_move (u := (Bo (finF (cf .f32 r1)))) (ev rfl)).mono ?_; rintro _ _ ⟨rfl, rfl⟩
    exact ⟨rfl, Ext.refl _⟩
  refine RW_d (fun v20 => [(.agg #[(Fl r1), (Fl r3), (Fl r5)]), (Pt b8 0), (Bo false), v16, v17, v18, v19, v20, Ud, Ud, Ud, Ud, Ud, Ud, Ud, Ud]) rfl (fun _ => rfl) (fun u hu hF => ?_) (fun v20 => ?_)
  · have h6_ : v19 = (Bo (finF (cf .f32 r1))) := hF.1
    clear hF
    obtain rfl := h6_
    refine doesG_g (b := (finF (cf .f32 r1))) rfl (yld rfl rfl) (fun hg1 => ?_) (fun hc => ⟨fun hg1 => absurd hg1 hc, Ext.refl _⟩)
    refine (does_fieldAddr (ev rfl) fa26_1).mono ?_; rintro _ _ ⟨rfl, rfl⟩
    exact ⟨fun _ => rfl, Ext.refl _⟩
  refine RW_d (fun v21 => [(.agg #[(Fl r1), (Fl r3), (Fl r5)]), (Pt b8 0), (Bo false), v16, v17, v18, v19, v20, v21, Ud, Ud, Ud, Ud, Ud, Ud, Ud]) rfl (fun _ => rfl) (fun u hu hF => ?_) (fun v21 => ?_)
  · have h7_ : (finF (cf .f32 r1)) = true → v20 = (Pt b8 1) := hF.1
    have h6_ : v19 = (Bo (finF (cf .f32 r1))) := hF.2.1
    clear hF
    obtain rfl := h6_
    refine doesG_g (b := (finF (cf .f32 r1))) rfl (yld rfl rfl) (fun hg1 => ?_) (fun hc => ⟨fun hg1 => absurd hg1 hc, Ext.refl _⟩)
    obtain rfl := h7_ hg1
    refine (does_load (u := (Fl r3)) (ev rfl) Try.isAgg24 (Cells.at (Blk.cells (hB10.ext hu)) 1 rfl)).mono ?_; rintro _ _ ⟨rfl, rfl⟩
    exact ⟨fun _ => rfl, Ext.refl _⟩
  refine RW_d (fun v22 => [(.agg #[(Fl r1), (Fl r3), (Fl r5)]), (Pt b8 0), (Bo false), v16, v17, v18, v19, v20, v21, v22, Ud, Ud, Ud, Ud, Ud, Ud]) rfl (fun _ => rfl) (fun u hu hF => ?_) (fun v22 => ?_)
  · have h8_ : (finF (cf .f32 r1)) = true → v21 = (Fl r3) := hF.1
    have h6_ : v19 = (Bo (finF (cf .f32 r1))) := hF.2.1
    clear hF
    obtain rfl := h6_
    refine doesG_g (b := (finF (cf .f32 r1))) rfl (yld rfl rfl) (fun hg1 => ?_) (fun hc => ⟨fun hg1 => absurd hg1 hc, Ext.refl _⟩)
    obtain rfl := h8_ hg1
    refine (does_call (args := #[(Fl r3)]) cal94 (evs rfl) (c_spec_l01Finite r3 _)).mono ?_; rintro v u' ⟨hx, hv⟩
    exact ⟨fun _ => hv, hx⟩
  refine RW_d (fun v23 => [(.agg #[(Fl r1), (Fl r3), (Fl r5)]), (Pt b8 0), (Bo false), v16, v17, v18, v19, v20, v21, v22, v23, Ud, Ud, Ud, Ud, Ud]) rfl (fun _ => rfl) (fun u hu hF => ?_) (fun v23 => ?_)
  · have h6_ : v19 = (Bo (finF (cf .f32 r1))) := hF.1
    have h9_ : (finF (cf .f32 r1)) = true → v22 = (Bo (finF (cf .f32 r3))) := hF.2.1
    clear hF
    refine doesG_un rfl ?_
    skip
    obtain rfl := h6_
    refine (does_pick (b := (finF (cf .f32 r1))) (ev rfl) (ev rfl) (ev rfl)).mono ?_; rintro _ _ ⟨rfl, rfl⟩; refine ⟨?_, Ext.refl _⟩; rw [hβ1]; skip
    cases hbb : (finF (cf .f32 r1)) <;> simp [hbb] at h9_ ⊢
    all_goals (first | rfl | (subst h9_; rfl) | simp_all)
  refine RW_d (fun v24 => [(.agg #[(Fl r1), (Fl r3), (Fl r5)]), (Pt b8 0), (Bo false), v16, v17, v18, v19, v20, v21, v22, v23, v24, Ud, Ud, Ud, Ud]) rfl (fun _ => rfl) (fun u hu hF => ?_) (fun v24 => ?_)
  · have h10_ : v23 = (Bo β1) := hF.1
    clear hF
    refine doesG_un rfl ?_
    obtain rfl := h10_
    refine (does_move (u := (Bo β1)) (ev rfl)).mono ?_; rintro _ _ ⟨rfl, rfl⟩
    exact ⟨rfl, Ext.refl _⟩
  refine RW_d (fun v25 => [(.agg #[(Fl r1), (Fl r3), (Fl r5)]), (Pt b8 0), (Bo false), v16, v17, v18, v19, v20, v21, v22, v23, v24, v25, Ud, Ud, Ud]) rfl (fun _ => rfl) (fun u hu hF => ?_) (fun v25 => ?_)
  · have h11_ : v24 = (Bo β1) := hF.1
    clear hF
    obtain rfl := h11_
    refine doesG_g (b := β1) rfl (yld rfl rfl) (fun hg1 => ?_) (fun hc => ⟨fun hg1 => absurd hg1 hc, Ext.refl _⟩)
    refine (does_fieldAddr (ev rfl) fa26_2).mono ?_; rintro _ _ ⟨rfl, rfl⟩
    exact ⟨fun _ => rfl, Ext.refl _⟩
  refine RW_d (fun v26 => [(.agg #[(Fl r1), (Fl r3), (Fl r5)]), (Pt b8 0), (Bo false), v16, v17, v18, v19, v20, v21, v22, v23, v24, v25, v26, Ud, Ud]) rfl (fun _ => rfl) (fun u hu hF => ?_) (fun v26 => ?_)
  · have h12_ : β1 = true → v25 = (Pt b8 2) := hF.1
    have h11_ : v24 = (Bo β1) := hF.2.1
    clear hF
    obtain rfl := h11_
    refine doesG_g (b := β1) rfl (yld rfl rfl) (fun hg1 => ?_) (fun hc => ⟨fun hg1 => absurd hg1 hc, Ext.refl _⟩)
    obtain rfl := h12_ hg1
    refine (does_load (u := (Fl r5)) (ev rfl) Try.isAgg24 (Cells.at (Blk.cells (hB10.ext hu)) 2 rfl)).mono ?_; rintro _ _ ⟨rfl, rfl⟩
    exact ⟨fun _ => rfl, Ext.refl _⟩
  refine RW_d (fun v27 => [(.agg #[(Fl r1), (Fl r3), (Fl r5)]), (Pt b8 0), (Bo false), v16, v17, v18, v19, v20, v21, v22, v23, v24, v25, v26, v27, Ud]) rfl (fun _ => rfl) (fun u hu hF => ?_) (fun v27 => ?_)
  · have h13_ : β1 = true → v26 = (Fl r5) := hF.1
    have h11_ : v24 = (Bo β1) := hF.2.1
    clear hF
    obtain rfl := h11_
    refine doesG_g (b := β1) rfl (yld rfl rfl) (fun hg1 => ?_) (fun hc => ⟨fun hg1 => absurd hg1 hc, Ext.refl _⟩)
    obtain rfl := h13_ hg1
    refine (does_call (args := #[(Fl r5)]) cal94 (evs rfl) (c_spec_l01Finite r5 _)).mono ?_; rintro v u' ⟨hx, hv⟩
    exact ⟨fun _ => hv, hx⟩
  refine RW_d (fun v28 => [(.agg #[(Fl r1), (Fl r3), (Fl r5)]), (Pt b8 0), (Bo false), v16, v17, v18, v19, v20, v21, v22, v23, v24, v25, v26, v27, v28]) rfl (fun _ => rfl) (fun u hu hF => ?_) (fun v28 => ?_)
  · have h11_ : v24 = (Bo β1) := hF.1
    have h14_ : β1 = true → v27 = (Bo (finF (cf .f32 r5))) := hF.2.1
    clear hF
    refine doesG_un rfl ?_
    skip
    obtain rfl := h11_
    refine (does_pick (b := β1) (ev rfl) (ev rfl) (ev rfl)).mono ?_; rintro _ _ ⟨rfl, rfl⟩; refine ⟨?_, Ext.refl _⟩; rw [hβ2]; skip
    cases hbb : β1 <;> simp [hbb] at h14_ ⊢
    all_goals (first | rfl | (subst h14_; rfl) | simp_all)
  refine RW_fin ?_; intro w29 E30 hP31
  obtain ⟨⟨⟨⟨⟨⟨⟨⟨⟨⟨⟨⟨⟨-, -⟩, -⟩, -⟩, -⟩, -⟩, -⟩, -⟩, -⟩, -⟩, -⟩, -⟩, -⟩, q32⟩ := hP31
  have X33 := Ext.gr X14 E30
  have q32 : v28 = (Bo β2) := q32
  obtain rfl := q32
  show wpList _ _ _ _ (fr [(.agg #[(Fl r1), (Fl r3), (Fl r5)]), (Pt b8 0), (Bo false), v16, v17, v18, v19, v20, v21, v22, v23, v24, v25, v26, v27, (Bo β2)]) _
  refine q_is (l' := [(.agg #[(Fl r1), (Fl r3), (Fl r5)]), (Pt b8 0), (Bo β2), v16, v17, v18, v19, v20, v21, v22, v23, v24, v25, v26, v27, (Bo β2)]) rfl rfl (does_assign (u := (Bo β2)) (ev rfl)) rfl ?_
  refine wpList_nil (hK15 _ _ ?_)
  refine wp_ret ?_
  refine ret_val (v := (Bo β2)) (res_T rfl (slot rfl)) X33 ?_
  have x34 : (finV A_v) = β2 := by first | with_reducible rfl | (simp only [finV, h2, h4, h6, hβ1, hβ2]; done) | (simp [finV, h2, h4, h6, hβ1, hβ2]; done) | rfl
  exact (by first | rfl | rw [x34])

/- spec.l01Scale -/
theorem c_spec_l01Scale (a : List Value) (A_a : V3) (b : Nat) (w : World) (hv_a : RV3 w A_a a) : Gives Try.prog 86 #[(.agg a.toArray), (Fl b)] w (fun v w' => ∃ cs_1 : List Value, v = (.agg cs_1.toArray) ∧ RV3 w (vscale A_a (cf .f32 b)) cs_1) := by
  obtain ⟨r1, r3, r5, rfl, h2, h4, h6⟩ := hv_a
  refine enter [(.agg #[(Fl r1), (Fl r3), (Fl r5)]), (Fl b), Ud, Ud, Ud, Ud, Ud, Ud, Ud, Ud, Ud, Ud, Ud, Ud, Ud, Ud, Ud, Ud] Try.func86 rfl Try.ntmps86 rfl ?_
  refine wp_seq_k fun K7 hK7 => ?_
  refine wp_region_lit ?_
  refine seqd rfl rfl (does_box (u := (.agg #[(Fl r1), (Fl r3), (Fl r5)])) (ev rfl)) ?_; rintro _ w12 ⟨b8, rfl, hb9, hB10, E11⟩
  have g13 : w.heap.size ≤ b8 := Nat.le_trans (Below.size (Ext.refl w)) hb9
  change Blk _ _ [(Fl r1), (Fl r3), (Fl r5)] at hB10
  have X14 := Ext.gr (Ext.refl w) E11
  show wpList _ _ _ _ (fr [(.agg #[(Fl r1), (Fl r3), (Fl r5)]), (Fl b), (Pt b8 0), Ud, Ud, Ud, Ud, Ud, Ud, Ud, Ud, Ud, Ud, Ud, Ud, Ud, Ud, Ud]) _
  refine seqd rfl rfl (does_alloc z26) ?_; rintro _ w19 ⟨b15, rfl, hb16, hB17, E18⟩
  have n20 : b8 < b15 := Nat.lt_of_lt_of_le (Blk.lt hB10) hb16
  have g21 : w.heap.size ≤ b15 := Nat.le_trans (Below.size X14) hb16
  change Blk _ _ [(Fl 0), (Fl 0), (Fl 0)] at hB17
  have X22 := Ext.gr X14 E18
  show wpList _ _ _ _ (fr [(.agg #[(Fl r1), (Fl r3), (Fl r5)]), (Fl b), (Pt b8 0), Ud, (Pt b15 0), Ud, Ud, Ud, Ud, Ud, Ud, Ud, Ud, Ud, Ud, Ud, Ud, Ud]) _
  refine wpList_nil (hK7 _ _ ?_)
  refine wp_seq_k fun K23 hK23 => ?_
  refine wp_region_lit ?_
  refine q_is (l' := [(.agg #[(Fl r1), (Fl r3), (Fl r5)]), (Fl b), (Pt b8 0), Ud, (Pt b15 0), (Pt b8 0), Ud, Ud, Ud, Ud, Ud, Ud, Ud, Ud, Ud, Ud, Ud, Ud]) rfl rfl (does_fieldAddr (ev rfl) fa26_0) rfl ?_
  refine q_is (l' := [(.agg #[(Fl r1), (Fl r3), (Fl r5)]), (Fl b), (Pt b8 0), Ud, (Pt b15 0), (Pt b8 0), (Fl r1), Ud, Ud, Ud, Ud, Ud, Ud, Ud, Ud, Ud, Ud, Ud]) rfl rfl (does_load (u := (Fl r1)) (ev rfl) Try.isAgg24 (Cells.at (Blk.cells (hB10.ext E18)) 0 rfl)) rfl ?_
  refine q_is (l' := [(.agg #[(Fl r1), (Fl r3), (Fl r5)]), (Fl b), (Pt b8 0), Ud, (Pt b15 0), (Pt b8 0), (Fl r1), (Fl b), Ud, Ud, Ud, Ud, Ud, Ud, Ud, Ud, Ud, Ud]) rfl rfl (does_move (u := (Fl b)) (ev rfl)) rfl ?_
  refine seqd rfl rfl (does_float (.inr (.inr (.inl rfl))) (ev rfl) (ev rfl)) ?_; rintro _ w27 ⟨r24, rfl, h25, E26⟩
  have X28 := Ext.gr X22 E26
  show wpList _ _ _ _ (fr [(.agg #[(Fl r1), (Fl r3), (Fl r5)]), (Fl b), (Pt b8 0), Ud, (Pt b15 0), (Pt b8 0), (Fl r1), (Fl b), (Fl r24), Ud, Ud, Ud, Ud, Ud, Ud, Ud, Ud, Ud]) _
  refine q_is (l' := [(.agg #[(Fl r1), (Fl r3), (Fl r5)]), (Fl b), (Pt b8 0), Ud, (Pt b15 0), (Pt b8 0), (Fl r1), (Fl b), (Fl r24), (Pt b8 1), Ud, Ud, Ud, Ud, Ud, Ud, Ud, Ud]) rfl rfl (does_fieldAddr (ev rfl) fa26_1) rfl ?_
  refine q_is (l' := [(.agg #[(Fl r1), (Fl r3), (Fl r5)]), (Fl b), (Pt b8 0), Ud, (Pt b15 0), (Pt b8 0), (Fl r1), (Fl b), (Fl r24), (Pt b8 1), (Fl r3), Ud, Ud, Ud, Ud, Ud, Ud, Ud]) rfl rfl (does_load (u := (Fl r3)) (ev rfl) Try.isAgg24 (Cells.at (Blk.cells ((hB10.ext E18).ext E26)) 1 rfl)) rfl ?_
  refine q_is (l' := [(.agg #[(Fl r1), (Fl r3), (Fl r5)]), (Fl b), (Pt b8 0), Ud, (Pt b15 0), (Pt b8 0), (Fl r1), (Fl b), (Fl r24), (Pt b8 1), (Fl r3), (Fl b), Ud, Ud, Ud, Ud, Ud, Ud]) rfl rfl (does_move (u := (Fl b)) (ev rfl)) rfl ?_
  refine seqd rfl rfl (does_float (.inr (.inr (.inl rfl))) (ev rfl) (ev rfl)) ?_; rintro _ w32 ⟨r29, rfl, h30, E31⟩
  have X33 := Ext.gr X28 E31
  show wpList _ _ _ _ (fr [(.agg #[(Fl r1), (Fl r3), (Fl r5)]), (Fl b), (Pt b8 0), Ud, (Pt b15 0), (Pt b8 0), (Fl r1), (Fl b), (Fl r24), (Pt b8 1), (Fl r3), (Fl b), (Fl r29), Ud, Ud, Ud, Ud, Ud]) _
  refine q_is (l' := [(.agg #[(Fl r1), (Fl r3), (Fl r5)]), (Fl b), (Pt b8 0), Ud, (Pt b15 0), (Pt b8 0), (Fl r1), (Fl b), (Fl r24), (Pt b8 1), (Fl r3), (Fl b), (Fl r29), (Pt b8 2), Ud, Ud, Ud, Ud]) rfl rfl (does_fieldAddr (ev rfl) fa26_2) rfl ?_
  refine q_is (l' := [(.agg #[(Fl r1), (Fl r3), (Fl r5)]), (Fl b), (Pt b8 0), Ud, (Pt b15 0), (Pt b8 0), (Fl r1), (Fl b), (Fl r24), (Pt b8 1), (Fl r3), (Fl b), (Fl r29), (Pt b8 2), (Fl r5), Ud, Ud, Ud]) rfl rfl (does_load (u := (Fl r5)) (ev rfl) Try.isAgg24 (Cells.at (Blk.cells (((hB10.ext E18).ext E26).ext E31)) 2 rfl)) rfl ?_
  refine q_is (l' := [(.agg #[(Fl r1), (Fl r3), (Fl r5)]), (Fl b), (Pt b8 0), Ud, (Pt b15 0), (Pt b8 0), (Fl r1), (Fl b), (Fl r24), (Pt b8 1), (Fl r3), (Fl b), (Fl r29), (Pt b8 2), (Fl r5), (Fl b), Ud, Ud]) rfl rfl (does_move (u := (Fl b)) (ev rfl)) rfl ?_
  refine seqd rfl rfl (does_float (.inr (.inr (.inl rfl))) (ev rfl) (ev rfl)) ?_; rintro _ w37 ⟨r34, rfl, h35, E36⟩
  have X38 := Ext.gr X33 E36
  show wpList _ _ _ _ (fr [(.agg #[(Fl r1), (Fl r3), (Fl r5)]), (Fl b), (Pt b8 0), Ud, (Pt b15 0), (Pt b8 0), (Fl r1), (Fl b), (Fl r24), (Pt b8 1), (Fl r3), (Fl b), (Fl r29), (Pt b8 2), (Fl r5), (Fl b), (Fl r34), Ud]) _
  refine q_is (l' := [(.agg #[(Fl r1), (Fl r3), (Fl r5)]), (Fl b), (Pt b8 0), Ud, (Pt b15 0), (Pt b8 0), (Fl r1), (Fl b), (Fl r24), (Pt b8 1), (Fl r3), (Fl b), (Fl r29), (Pt b8 2), (Fl r5), (Fl b), (Fl r34), (.agg #[(Fl r24), (Fl r29), (Fl r34)])]) rfl rfl (does_build (parts' := [(0, (Fl r24)), (1, (Fl r29)), (2, (Fl r34))]) (cells := #[(Fl r24), (Fl r29), (Fl r34)]) (evp rfl) (by kernel_rfl)) rfl ?_
  refine seqn rfl rfl (does_store (n := 3) (cs := [(Fl 0), (Fl 0), (Fl 0)]) (u := (.agg #[(Fl r24), (Fl r29), (Fl r34)])) (ev rfl) (ev rfl) Try.sizeOf26 rfl (((hB17.ext E26).ext E31).ext E36) (Nat.le_of_ble_eq_true rfl) rfl) ?_; rintro _ w41 ⟨rfl, W39, hB40⟩
  change Blk _ _ [(Fl r24), (Fl r29), (Fl r34)] at hB40
  have X42 := Below.wr X38 W39 g21
  refine wpList_nil (hK23 _ _ ?_)
  refine wp_ret ?_
  refine ret_val (v := (.agg #[(Fl r24), (Fl r29), (Fl r34)])) (res_C rfl (slot rfl) (run_loadAgg (cs := [(Fl r24), (Fl r29), (Fl r34)]) Try.isAgg26 Try.sizeOf26 (Blk.cells hB40) rfl)) X42 ?_
  have x43 : cf .f32 r24 = (vscale A_a (cf .f32 b)).x := by first | with_reducible rfl | (simp only [vscale, h2, h4, h6, h25, h30, h35]; done) | (simp [vscale, h2, h4, h6, h25, h30, h35]; done) | rfl
  have x44 : cf .f32 r29 = (vscale A_a (cf .f32 b)).y := by first | with_reducible rfl | (simp only [vscale, h2, h4, h6, h25, h30, h35]; done) | (simp [vscale, h2, h4, h6, h25, h30, h35]; done) | rfl
  have x45 : cf .f32 r34 = (vscale A_a (cf .f32 b)).z := by first | with_reducible rfl | (simp only [vscale, h2, h4, h6, h25, h30, h35]; done) | (simp [vscale, h2, h4, h6, h25, h30, h35]; done) | rfl
  exact ⟨[(Fl r24), (Fl r29), (Fl r34)], rfl, ⟨r24, r29, r34, rfl, x43, x44, x45⟩⟩

/- math.Sqrt -/
theorem c_math_Sqrt (x : Nat) (w : World) : Gives Try.prog 113 #[(Fd x)] w (fun v w' => ∃ r_1 : Nat, v = (Fd r_1) ∧ cf .f64 r_1 = fsqrt (cf .f64 x)) := by
  refine enter [(Fd x), Ud, Ud, Ud, Ud] Try.func113 rfl Try.ntmps113 rfl ?_
  refine wp_seq_k fun K1 hK1 => ?_
  refine wp_region_lit ?_
  refine q_is (l' := [(Fd x), Ud, (Fd 0), Ud, Ud]) rfl rfl (does_assign (u := (Fd 0)) (ev rfl)) rfl ?_
  refine wpList_nil (hK1 _ _ ?_)
  refine wp_seq_k fun K2 hK2 => ?_
  refine wp_region_lit ?_
  refine q_is (l' := [(Fd x), Ud, (Fd 0), (Fd x), Ud]) rfl rfl (does_move (u := (Fd x)) (ev rfl)) rfl ?_
  refine seqd rfl rfl (does_sqrt (p := x) (ev rfl) csq117) ?_; rintro _ w6 ⟨r3, rfl, h4, E5⟩
  have X7 := Ext.gr (Ext.refl w) E5
  show wpList _ _ _ _ (fr [(Fd x), Ud, (Fd 0), (Fd x), (Fd r3)]) _
  refine q_is (l' := [(Fd x), Ud, (Fd r3), (Fd x), (Fd r3)]) rfl rfl (does_assign (u := (Fd r3)) (ev rfl)) rfl ?_
  refine wpList_nil (hK2 _ _ ?_)
  refine wp_ret ?_
  refine ret_val (v := (Fd r3)) (res_T rfl (slot rfl)) X7 ?_
  have x8 : cf .f64 r3 = fsqrt (cf .f64 x) := by first | with_reducible rfl | (simp only [h4]; done) | (simp [h4]; done) | rfl
  exact ⟨r3, rfl, x8⟩

/- spec.l01Narrow -/
theorem c_spec_l01Narrow (x : Nat) (w : World) (hn : nov (cf .f64 x) = true) : Gives Try.prog 116 #[(Fd x)] w (fun v w' => ∃ r_1 : Nat, v = (Fl r_1) ∧ cf .f32 r_1 = fnar (cf .f64 x)) := by
  refine enter [(Fd x), Ud, Ud, Ud, Ud] Try.func116 rfl Try.ntmps116 rfl ?_
  refine wp_seq_k fun K1 hK1 => ?_
  refine wp_region_lit ?_
  refine q_is (l' := [(Fd x), Ud, (Fl 0), Ud, Ud]) rfl rfl (does_assign (u := (Fl 0)) (ev rfl)) rfl ?_
  refine wpList_nil (hK1 _ _ ?_)
  refine wp_seq_k fun K2 hK2 => ?_
  refine wp_region_lit ?_
  refine q_is (l' := [(Fd x), Ud, (Fl 0), (Fd x), Ud]) rfl rfl (does_move (u := (Fd x)) (ev rfl)) rfl ?_
  refine seqd rfl rfl (does_narrow Try.underlying80 Try.underlying24 (ev rfl) (by first | assumption | (simp only [cf_cf]; exact nov_sqrt _))) ?_; rintro _ w6 ⟨r3, rfl, h4, E5⟩
  have X7 := Ext.gr (Ext.refl w) E5
  show wpList _ _ _ _ (fr [(Fd x), Ud, (Fl 0), (Fd x), (Fl r3)]) _
  refine q_is (l' := [(Fd x), Ud, (Fl r3), (Fd x), (Fl r3)]) rfl rfl (does_assign (u := (Fl r3)) (ev rfl)) rfl ?_
  refine wpList_nil (hK2 _ _ ?_)
  refine wp_ret ?_
  refine ret_val (v := (Fl r3)) (res_T rfl (slot rfl)) X7 ?_
  have x8 : cf .f32 r3 = fnar (cf .f64 x) := by first | with_reducible rfl | (simp only [h4]; done) | (simp [h4]; done) | rfl
  exact ⟨r3, rfl, x8⟩

/- spec.l01Sqrt -/
theorem c_spec_l01Sqrt (x : Nat) (w : World) : Gives Try.prog 111 #[(Fl x)] w (fun v w' => ∃ r_1 : Nat, v = (Fl r_1) ∧ cf .f32 r_1 = rootF (cf .f32 x)) := by
  refine enter [(Fl x), Ud, Ud, Ud, Ud, Ud, Ud] Try.func111 rfl Try.ntmps111 rfl ?_
  refine wp_seq_k fun K1 hK1 => ?_
  refine wp_region_lit ?_
  refine q_is (l' := [(Fl x), Ud, (Fl 0), Ud, Ud, Ud, Ud]) rfl rfl (does_assign (u := (Fl 0)) (ev rfl)) rfl ?_
  refine wpList_nil (hK1 _ _ ?_)
  refine wp_seq_k fun K2 hK2 => ?_
  refine wp_region_lit ?_
  refine q_is (l' := [(Fl x), Ud, (Fl 0), (Fl x), Ud, Ud, Ud]) rfl rfl (does_move (u := (Fl x)) (ev rfl)) rfl ?_
  refine seqd rfl rfl (does_widen Try.underlying24 Try.underlying80 (ev rfl)) ?_; rintro _ w6 ⟨r3, rfl, h4, E5⟩
  have X7 := Ext.gr (Ext.refl w) E5
  show wpList _ _ _ _ (fr [(Fl x), Ud, (Fl 0), (Fl x), (Fd r3), Ud, Ud]) _
  refine seqd rfl rfl (does_call (args := #[(Fd r3)]) cal113 (evs rfl) (c_math_Sqrt r3 _)) ?_; rintro _ w9 ⟨E8, ⟨r10, rfl, h11⟩⟩
  have X12 := Ext.gr X7 E8
  show wpList _ _ _ _ (fr [(Fl x), Ud, (Fl 0), (Fl x), (Fd r3), (Fd r10), Ud]) _
  refine seqd rfl rfl (does_call (args := #[(Fd r10)]) cal116 (evs rfl) (c_spec_l01Narrow r10 _ (by simp only [h4, h11]; exact nov_sqrt _))) ?_; rintro _ w14 ⟨E13, ⟨r15, rfl, h16⟩⟩
  have X17 := Ext.gr X12 E13
  show wpList _ _ _ _ (fr [(Fl x), Ud, (Fl 0), (Fl x), (Fd r3), (Fd r10), (Fl r15)]) _
  refine q_is (l' := [(Fl x), Ud, (Fl r15), (Fl x), (Fd r3), (Fd r10), (Fl r15)]) rfl rfl (does_assign (u := (Fl r15)) (ev rfl)) rfl ?_
  refine wpList_nil (hK2 _ _ ?_)
  refine wp_ret ?_
  refine ret_val (v := (Fl r15)) (res_T rfl (slot rfl)) X17 ?_
  have x18 : cf .f32 r15 = rootF (cf .f32 x) := by first | with_reducible rfl | (simp only [rootF, h4, h11, h16]; done) | (simp [rootF, h4, h11, h16]; done) | rfl
  exact ⟨r15, rfl, x18⟩

/- spec.l01Inner -/
theorem c_spec_l01Inner (a : List Value) (A_a : V3) (b : List Value) (A_b : V3) (w : World) (hv_a : RV3 w A_a a) (hv_b : RV3 w A_b b) : Gives Try.prog 112 #[(.agg a.toArray), (.agg b.toArray)] w (fun v w' => ∃ r_1 : Nat, v = (Fl r_1) ∧ cf .f32 r_1 = innerF A_a A_b) := by
  obtain ⟨r1, r3, r5, rfl, h2, h4, h6⟩ := hv_a
  obtain ⟨r7, r9, r11, rfl, h8, h10, h12⟩ := hv_b
  refine enter [(.agg #[(Fl r1), (Fl r3), (Fl r5)]), (.agg #[(Fl r7), (Fl r9), (Fl r11)]), Ud, Ud, Ud, Ud, Ud, Ud, Ud, Ud, Ud, Ud, Ud, Ud, Ud, Ud, Ud, Ud, Ud, Ud, Ud, Ud] Try.func112 rfl Try.ntmps112 rfl ?_
  refine wp_seq_k fun K13 hK13 => ?_
  refine wp_region_lit ?_
  refine seqd rfl rfl (does_box (u := (.agg #[(Fl r1), (Fl r3), (Fl r5)])) (ev rfl)) ?_; rintro _ w18 ⟨b14, rfl, hb15, hB16, E17⟩
  have g19 : w.heap.size ≤ b14 := Nat.le_trans (Below.size (Ext.refl w)) hb15
  change Blk _ _ [(Fl r1), (Fl r3), (Fl r5)] at hB16
  have X20 := Ext.gr (Ext.refl w) E17
  show wpList _ _ _ _ (fr [(.agg #[(Fl r1), (Fl r3), (Fl r5)]), (.agg #[(Fl r7), (Fl r9), (Fl r11)]), (Pt b14 0), Ud, Ud, Ud, Ud, Ud, Ud, Ud, Ud, Ud, Ud, Ud, Ud, Ud, Ud, Ud, Ud, Ud, Ud, Ud]) _
  refine seqd rfl rfl (does_box (u := (.agg #[(Fl r7), (Fl r9), (Fl r11)])) (ev rfl)) ?_; rintro _ w25 ⟨b21, rfl, hb22, hB23, E24⟩
  have n26 : b14 < b21 := Nat.lt_of_lt_of_le (Blk.lt hB16) hb22
  have g27 : w.heap.size ≤ b21 := Nat.le_trans (Below.size X20) hb22
  change Blk _ _ [(Fl r7), (Fl r9), (Fl r11)] at hB23
  have X28 := Ext.gr X20 E24
  show wpList _ _ _ _ (fr [(.agg #[(Fl r1), (Fl r3), (Fl r5)]), (.agg #[(Fl r7), (Fl r9), (Fl r11)]), (Pt b14 0), (Pt b21 0), Ud, Ud, Ud, Ud, Ud, Ud, Ud, Ud, Ud, Ud, Ud, Ud, Ud, Ud, Ud, Ud, Ud, Ud]) _
  refine q_is (l' := [(.agg #[(Fl r1), (Fl r3), (Fl r5)]), (.agg #[(Fl r7), (Fl r9), (Fl r11)]), (Pt b14 0), (Pt b21 0), (Fl 0), Ud, Ud, Ud, Ud, Ud, Ud, Ud, Ud, Ud, Ud, Ud, Ud, Ud, Ud, Ud, Ud, Ud]) rfl rfl (does_assign (u := (Fl 0)) (ev rfl)) rfl ?_
  refine wpList_nil (hK13 _ _ ?_)
  refine wp_seq_k fun K29 hK29 => ?_
  refine wp_region_lit ?_
  refine q_is (l' := [(.agg #[(Fl r1), (Fl r3), (Fl r5)]), (.agg #[(Fl r7), (Fl r9), (Fl r11)]), (Pt b14 0), (Pt b21 0), (Fl 0), (Pt b14 0), Ud, Ud, Ud, Ud, Ud, Ud, Ud, Ud, Ud, Ud, Ud, Ud, Ud, Ud, Ud, Ud]) rfl rfl (does_fieldAddr (ev rfl) fa26_0) rfl ?_
  refine q_is (l' := [(.agg #[(Fl r1), (Fl r3), (Fl r5)]), (.agg #[(Fl r7), (Fl r9), (Fl r11)]), (Pt b14 0), (Pt b21 0), (Fl 0), (Pt b14 0), (Fl r1), Ud, Ud, Ud, Ud, Ud, Ud, Ud, Ud, Ud, Ud, Ud, Ud, Ud, Ud, Ud]) rfl rfl (does_load (u := (Fl r1)) (ev rfl) Try.isAgg24 (Cells.at (Blk.cells (hB16.ext E24)) 0 rfl)) rfl ?_
  refine q_is (l' := [(.agg #[(Fl r1), (Fl r3), (Fl r5)]), (.agg #[(Fl r7), (Fl r9), (Fl r11)]), (Pt b14 0), (Pt b21 0), (Fl 0), (Pt b14 0), (Fl r1), (Pt b21 0), Ud, Ud, Ud, Ud, Ud, Ud, Ud, Ud, Ud, Ud, Ud, Ud, Ud, Ud]) rfl rfl (does_fieldAddr (ev rfl) fa26_0) rfl ?_
  refine q_is (l' := [(.agg #[(Fl r1), (Fl r3), (Fl r5)]), (.agg #[(Fl r7), (Fl r9), (Fl r11)]), (Pt b14 0), (Pt b21 0), (Fl 0), (Pt b14 0), (Fl r1), (Pt b21 0), (Fl r7), Ud, Ud, Ud, Ud, Ud, Ud, Ud, Ud, Ud, Ud, Ud, Ud, Ud]) rfl rfl (does_load (u := (Fl r7)) (ev rfl) Try.isAgg24 (Cells.at (Blk.cells hB23) 0 rfl)) rfl ?_
  refine seqd rfl rfl (does_float (.inr (.inr (.inl rfl))) (ev rfl) (ev rfl)) ?_; rintro _ w33 ⟨r30, rfl, h31, E32⟩
  have X34 := Ext.gr X28 E32
  show wpList _ _ _ _ (fr [(.agg #[(Fl r1), (Fl r3), (Fl r5)]), (.agg #[(Fl r7), (Fl r9), (Fl r11)]), (Pt b14 0), (Pt b21 0), (Fl 0), (Pt b14 0), (Fl r1), (Pt b21 0), (Fl r7), (Fl r30), Ud, Ud, Ud, Ud, Ud, Ud, Ud, Ud, Ud, Ud, Ud, Ud]) _
  refine q_is (l' := [(.agg #[(Fl r1), (Fl r3), (Fl r5)]), (.agg #[(Fl r7), (Fl r9), (Fl r11)]), (Pt b14 0), (Pt b21 0), (Fl 0), (Pt b14 0), (Fl r1), (Pt b21 0), (Fl r7), (Fl r30), (Pt b14 1), Ud, Ud, Ud, Ud, Ud, Ud, Ud, Ud, Ud, Ud, Ud]) rfl rfl (does_fieldAddr (ev rfl) fa26_1) rfl ?_
  refine q_is (l' := [(.agg #[(Fl r1), (Fl r3), (Fl r5)]), (.agg #[(Fl r7), (Fl r9), (Fl r11)]), (Pt b14 0), (Pt b21 0), (Fl 0), (Pt b14 0), (Fl r1), (Pt b21 0), (Fl r7), (Fl r30), (Pt b14 1), (Fl r3), Ud, Ud, Ud, Ud, Ud, Ud, Ud, Ud, Ud, Ud]) rfl rfl (does_load (u := (Fl r3)) (ev rfl) Try.isAgg24 (Cells.at (Blk.cells ((hB16.ext E24).ext E32)) 1 rfl)) rfl ?_
  refine q_is (l' := [(.agg #[(Fl r1), (Fl r3), (Fl r5)]), (.agg #[(Fl r7), (Fl r9), (Fl r11)]), (Pt b14 0), (Pt b21 0), (Fl 0), (Pt b14 0), (Fl r1), (Pt b21 0), (Fl r7), (Fl r30), (Pt b14 1), (Fl r3), (Pt b21 1), Ud, Ud, Ud, Ud, Ud, Ud, Ud, Ud, Ud]) rfl rfl (does_fieldAddr (ev rfl) fa26_1) rfl ?_
  refine q_is (l' := [(.agg #[(Fl r1), (Fl r3), (Fl r5)]), (.agg #[(Fl r7), (Fl r9), (Fl r11)]), (Pt b14 0), (Pt b21 0), (Fl 0), (Pt b14 0), (Fl r1), (Pt b21 0), (Fl r7), (Fl r30), (Pt b14 1), (Fl r3), (Pt b21 1), (Fl r9), Ud, Ud, Ud, Ud, Ud, Ud, Ud, Ud]) rfl rfl (does_load (u := (Fl r9)) (ev rfl) Try.isAgg24 (Cells.at (Blk.cells (hB23.ext E32)) 1 rfl)) rfl ?_
  refine seqd rfl rfl (does_float (.inr (.inr (.inl rfl))) (ev rfl) (ev rfl)) ?_; rintro _ w38 ⟨r35, rfl, h36, E37⟩
  have X39 := Ext.gr X34 E37
  show wpList _ _ _ _ (fr [(.agg #[(Fl r1), (Fl r3), (Fl r5)]), (.agg #[(Fl r7), (Fl r9), (Fl r11)]), (Pt b14 0), (Pt b21 0), (Fl 0), (Pt b14 0), (Fl r1), (Pt b21 0), (Fl r7), (Fl r30), (Pt b14 1), (Fl r3), (Pt b21 1), (Fl r9), (Fl r35), Ud, Ud, Ud, Ud, Ud, Ud, Ud]) _
  refine seqd rfl rfl (does_float (.inl rfl) (ev rfl) (ev rfl)) ?_; rintro _ w43 ⟨r40, rfl, h41, E42⟩
  have X44 := Ext.gr X39 E42
  show wpList _ _ _ _ (fr [(.agg #[(Fl r1), (Fl r3), (Fl r5)]), (.agg #[(Fl r7), (Fl r9), (Fl r11)]), (Pt b14 0), (Pt b21 0), (Fl 0), (Pt b14 0), (Fl r1), (Pt b21 0), (Fl r7), (Fl r30), (Pt b14 1), (Fl r3), (Pt b21 1), (Fl r9), (Fl r35), (Fl r40), Ud, Ud, Ud, Ud, Ud, Ud]) _
  refine q_is (l' := [(.agg #[(Fl r1), (Fl r3), (Fl r5)]), (.agg #[(Fl r7), (Fl r9), (Fl r11)]), (Pt b14 0), (Pt b21 0), (Fl 0), (Pt b14 0), (Fl r1), (Pt b21 0), (Fl r7), (Fl r30), (Pt b14 1), (Fl r3), (Pt b21 1), (Fl r9), (Fl r35), (Fl r40), (Pt b14 2), Ud, Ud, Ud, Ud, Ud]) rfl rfl (does_fieldAddr (ev rfl) fa26_2) rfl ?_
  refine q_is (l' := [(.agg #[(Fl r1), (Fl r3), (Fl r5)]), (.agg #[(Fl r7), (Fl r9), (Fl r11)]), (Pt b14 0), (Pt b21 0), (Fl 0), (Pt b14 0), (Fl r1), (Pt b21 0), (Fl r7), (Fl r30), (Pt b14 1), (Fl r3), (Pt b21 1), (Fl r9), (Fl r35), (Fl r40), (Pt b14 2), (Fl r5), Ud, Ud, Ud, Ud]) rfl rfl (does_load (u := (Fl r5)) (ev rfl) Try.isAgg24 (Cells.at (Blk.cells ((((hB16.ext E24).ext E32).ext E37).ext E42)) 2 rfl)) rfl ?_
  refine q_is (l' := [(.agg #[(Fl r1), (Fl r3), (Fl r5)]), (.agg #[(Fl r7), (Fl r9), (Fl r11)]), (Pt b14 0), (Pt b21 0), (Fl 0), (Pt b14 0), (Fl r1), (Pt b21 0), (Fl r7), (Fl r30), (Pt b14 1), (Fl r3), (Pt b21 1), (Fl r9), (Fl r35), (Fl r40), (Pt b14 2), (Fl r5), (Pt b21 2), Ud, Ud, Ud]) rfl rfl (does_fieldAddr (ev rfl) fa26_2) rfl ?_
  refine q_is (l' := [(.agg #[(Fl r1), (Fl r3), (Fl r5)]), (.agg #[(Fl r7), (Fl r9), (Fl r11)]), (Pt b14 0), (Pt b21 0), (Fl 0), (Pt b14 0), (Fl r1), (Pt b21 0), (Fl r7), (Fl r30), (Pt b14 1), (Fl r3), (Pt b21 1), (Fl r9), (Fl r35), (Fl r40), (Pt b14 2), (Fl r5), (Pt b21 2), (Fl r11), Ud, Ud]) rfl rfl (does_load (u := (Fl r11)) (ev rfl) Try.isAgg24 (Cells.at (Blk.cells (((hB23.ext E32).ext E37).ext E42)) 2 rfl)) rfl ?_
  refine seqd rfl rfl (does_float (.inr (.inr (.inl rfl))) (ev rfl) (ev rfl)) ?_; rintro _ w48 ⟨r45, rfl, h46, E47⟩
  have X49 := Ext.gr X44 E47
  show wpList _ _ _ _ (fr [(.agg #[(Fl r1), (Fl r3), (Fl r5)]), (.agg #[(Fl r7), (Fl r9), (Fl r11)]), (Pt b14 0), (Pt b21 0), (Fl 0), (Pt b14 0), (Fl r1), (Pt b21 0), (Fl r7), (Fl r30), (Pt b14 1), (Fl r3), (Pt b21 1), (Fl r9), (Fl r35), (Fl r40), (Pt b14 2), (Fl r5), (Pt b21 2), (Fl r11), (Fl r45), Ud]) _
  refine seqd rfl rfl (does_float (.inl rfl) (ev rfl) (ev rfl)) ?_; rintro _ w53 ⟨r50, rfl, h51, E52⟩
  have X54 := Ext.gr X49 E52
  show wpList _ _ _ _ (fr [(.agg #[(Fl r1), (Fl r3), (Fl r5)]), (.agg #[(Fl r7), (Fl r9), (Fl r11)]), (Pt b14 0), (Pt b21 0), (Fl 0), (Pt b14 0), (Fl r1), (Pt b21 0), (Fl r7), (Fl r30), (Pt b14 1), (Fl r3), (Pt b21 1), (Fl r9), (Fl r35), (Fl r40), (Pt b14 2), (Fl r5), (Pt b21 2), (Fl r11), (Fl r45), (Fl r50)]) _
  refine q_is (l' := [(.agg #[(Fl r1), (Fl r3), (Fl r5)]), (.agg #[(Fl r7), (Fl r9), (Fl r11)]), (Pt b14 0), (Pt b21 0), (Fl r50), (Pt b14 0), (Fl r1), (Pt b21 0), (Fl r7), (Fl r30), (Pt b14 1), (Fl r3), (Pt b21 1), (Fl r9), (Fl r35), (Fl r40), (Pt b14 2), (Fl r5), (Pt b21 2), (Fl r11), (Fl r45), (Fl r50)]) rfl rfl (does_assign (u := (Fl r50)) (ev rfl)) rfl ?_
  refine wpList_nil (hK29 _ _ ?_)
  refine wp_ret ?_
  refine ret_val (v := (Fl r50)) (res_T rfl (slot rfl)) X54 ?_
  have x55 : cf .f32 r50 = innerF A_a A_b := by first | with_reducible rfl | (simp only [innerF, h2, h4, h6, h8, h10, h12, h31, h36, h41, h46, h51]; done) | (simp [innerF, h2, h4, h6, h8, h10, h12, h31, h36, h41, h46, h51]; done) | rfl
  exact ⟨r50, rfl, x55⟩

/- spec.l01Long -/
theorem c_spec_l01Long (v : List Value) (A_v : V3) (w : World) (hv_v : RV3 w A_v v) : Gives Try.prog 98 #[(.agg v.toArray)] w (fun v w' => ∃ r_1 : Nat, v = (Fl r_1) ∧ cf .f32 r_1 = longF A_v) := by
  obtain ⟨r1, r3, r5, rfl, h2, h4, h6⟩ := hv_v
  refine enter [(.agg #[(Fl r1), (Fl r3), (Fl r5)]), Ud, Ud, Ud, Ud, Ud, Ud] Try.func98 rfl Try.ntmps98 rfl ?_
  refine wp_seq_k fun K7 hK7 => ?_
  refine wp_region_lit ?_
  refine seqd rfl rfl (does_box (u := (.agg #[(Fl r1), (Fl r3), (Fl r5)])) (ev rfl)) ?_; rintro _ w12 ⟨b8, rfl, hb9, hB10, E11⟩
  have g13 : w.heap.size ≤ b8 := Nat.le_trans (Below.size (Ext.refl w)) hb9
  change Blk _ _ [(Fl r1), (Fl r3), (Fl r5)] at hB10
  have X14 := Ext.gr (Ext.refl w) E11
  show wpList _ _ _ _ (fr [(.agg #[(Fl r1), (Fl r3), (Fl r5)]), (Pt b8 0), Ud, Ud, Ud, Ud, Ud]) _
  refine q_is (l' := [(.agg #[(Fl r1), (Fl r3), (Fl r5)]), (Pt b8 0), (Fl 0), Ud, Ud, Ud, Ud]) rfl rfl (does_assign (u := (Fl 0)) (ev rfl)) rfl ?_
  refine wpList_nil (hK7 _ _ ?_)
  refine wp_seq_k fun K15 hK15 => ?_
  refine wp_region_lit ?_
  refine q_is (l' := [(.agg #[(Fl r1), (Fl r3), (Fl r5)]), (Pt b8 0), (Fl 0), (.agg #[(Fl r1), (Fl r3), (Fl r5)]), Ud, Ud, Ud]) rfl rfl (does_loadAgg (cs := [(Fl r1), (Fl r3), (Fl r5)]) (ev rfl) Try.isAgg26 Try.sizeOf26 (Blk.cells hB10) rfl) rfl ?_
  refine q_is (l' := [(.agg #[(Fl r1), (Fl r3), (Fl r5)]), (Pt b8 0), (Fl 0), (.agg #[(Fl r1), (Fl r3), (Fl r5)]), (.agg #[(Fl r1), (Fl r3), (Fl r5)]), Ud, Ud]) rfl rfl (does_loadAgg (cs := [(Fl r1), (Fl r3), (Fl r5)]) (ev rfl) Try.isAgg26 Try.sizeOf26 (Blk.cells hB10) rfl) rfl ?_
  refine seqd rfl rfl (does_call (args := #[(.agg #[(Fl r1), (Fl r3), (Fl r5)]), (.agg #[(Fl r1), (Fl r3), (Fl r5)])]) cal112 (evs rfl) (c_spec_l01Inner [(Fl r1), (Fl r3), (Fl r5)] A_v [(Fl r1), (Fl r3), (Fl r5)] A_v _ ⟨r1, r3, r5, rfl, h2, h4, h6⟩ ⟨r1, r3, r5, rfl, h2, h4, h6⟩)) ?_; rintro _ w17 ⟨E16, ⟨r18, rfl, h19⟩⟩
  have X20 := Ext.gr X14 E16
  show wpList _ _ _ _ (fr [(.agg #[(Fl r1), (Fl r3), (Fl r5)]), (Pt b8 0), (Fl 0), (.agg #[(Fl r1), (Fl r3), (Fl r5)]), (.agg #[(Fl r1), (Fl r3), (Fl r5)]), (Fl r18), Ud]) _
  refine seqd rfl rfl (does_call (args := #[(Fl r18)]) cal111 (evs rfl) (c_spec_l01Sqrt r18 _)) ?_; rintro _ w22 ⟨E21, ⟨r23, rfl, h24⟩⟩
  have X25 := Ext.gr X20 E21
  show wpList _ _ _ _ (fr [(.agg #[(Fl r1), (Fl r3), (Fl r5)]), (Pt b8 0), (Fl 0), (.agg #[(Fl r1), (Fl r3), (Fl r5)]), (.agg #[(Fl r1), (Fl r3), (Fl r5)]), (Fl r18), (Fl r23)]) _
  refine q_is (l' := [(.agg #[(Fl r1), (Fl r3), (Fl r5)]), (Pt b8 0), (Fl r23), (.agg #[(Fl r1), (Fl r3), (Fl r5)]), (.agg #[(Fl r1), (Fl r3), (Fl r5)]), (Fl r18), (Fl r23)]) rfl rfl (does_assign (u := (Fl r23)) (ev rfl)) rfl ?_
  refine wpList_nil (hK15 _ _ ?_)
  refine wp_ret ?_
  refine ret_val (v := (Fl r23)) (res_T rfl (slot rfl)) X25 ?_
  have x26 : cf .f32 r23 = longF A_v := by first | with_reducible rfl | (simp only [longF, h2, h4, h6, h19, h24]; done) | (simp [longF, h2, h4, h6, h19, h24]; done) | rfl
  exact ⟨r23, rfl, x26⟩

/- spec.l03Unit -/
theorem c_spec_l03Unit (v : List Value) (A_v : V3) (w : World) (hv_v : RV3 w A_v v) : Gives Try.prog 84 #[(.agg v.toArray)] w (fun v w' => ∃ cs_1 : List Value, v = (.agg cs_1.toArray) ∧ RV3 w (unitF A_v) cs_1) := by
  obtain ⟨r1, r3, r5, rfl, h2, h4, h6⟩ := hv_v
  refine enter [(.agg #[(Fl r1), (Fl r3), (Fl r5)]), Ud, Ud, Ud, Ud, Ud, Ud, Ud, Ud, Ud, Ud, Ud, Ud, Ud, Ud, Ud, Ud, Ud, Ud, Ud, Ud, Ud, Ud, Ud, Ud] Try.func84 rfl Try.ntmps84 rfl ?_
  refine wp_seq_k fun K7 hK7 => ?_
  refine wp_region_lit ?_
  refine seqd rfl rfl (does_box (u := (.agg #[(Fl r1), (Fl r3), (Fl r5)])) (ev rfl)) ?_; rintro _ w12 ⟨b8, rfl, hb9, hB10, E11⟩
  have g13 : w.heap.size ≤ b8 := Nat.le_trans (Below.size (Ext.refl w)) hb9
  change Blk _ _ [(Fl r1), (Fl r3), (Fl r5)] at hB10
  have X14 := Ext.gr (Ext.refl w) E11
  show wpList _ _ _ _ (fr [(.agg #[(Fl r1), (Fl r3), (Fl r5)]), (Pt b8 0), Ud, Ud, Ud, Ud, Ud, Ud, Ud, Ud, Ud, Ud, Ud, Ud, Ud, Ud, Ud, Ud, Ud, Ud, Ud, Ud, Ud, Ud, Ud]) _
  refine seqd rfl rfl (does_alloc z26) ?_; rintro _ w19 ⟨b15, rfl, hb16, hB17, E18⟩
  have n20 : b8 < b15 := Nat.lt_of_lt_of_le (Blk.lt hB10) hb16
  have g21 : w.heap.size ≤ b15 := Nat.le_trans (Below.size X14) hb16
  change Blk _ _ [(Fl 0), (Fl 0), (Fl 0)] at hB17
  have X22 := Ext.gr X14 E18
  show wpList _ _ _ _ (fr [(.agg #[(Fl r1), (Fl r3), (Fl r5)]), (Pt b8 0), (Pt b15 0), Ud, Ud, Ud, Ud, Ud, Ud, Ud, Ud, Ud, Ud, Ud, Ud, Ud, Ud, Ud, Ud, Ud, Ud, Ud, Ud, Ud, Ud]) _
  refine wpList_nil (hK7 _ _ ?_)
  refine wp_seq_k fun K23 hK23 => ?_
  refine wp_region_lit ?_
  refine q_is rfl rfl (does_loadAgg (cs := [(Fl r1), (Fl r3), (Fl r5)]) (ev rfl) Try.isAgg26 Try.sizeOf26 (Blk.cells (hB10.ext E18)) rfl) (by dsimp only [List.set]; try rfl) ?_
  refine seqd rfl rfl (does_call (args := #[(.agg #[(Fl r1), (Fl r3), (Fl r5)])]) cal98 (evs rfl) (c_spec_l01Long [(Fl r1), (Fl r3), (Fl r5)] A_v _ ⟨r1, r3, r5, rfl, h2, h4, h6⟩)) ?_; rintro _ w25 ⟨E24, ⟨r26, rfl, h27⟩⟩
  have X28 := Ext.gr X22 E24
  show wpList _ _ _ _ (fr [(.agg #[(Fl r1), (Fl r3), (Fl r5)]), (Pt b8 0), (Pt b15 0), Ud, Ud, (.agg #[(Fl r1), (Fl r3), (Fl r5)]), (Fl r26), Ud, Ud, Ud, Ud, Ud, Ud, Ud, Ud, Ud, Ud, Ud, Ud, Ud, Ud, Ud, Ud, Ud, Ud]) _
  refine q_is rfl rfl (does_assign (u := (Fl r26)) (ev rfl)) (by dsimp only [List.set]; try rfl) ?_
  refine wpList_nil (hK23 _ _ ?_)
  refine wp_seq_k fun K29 hK29 => ?_
  refine wp_region_lit ?_
  refine q_is rfl rfl (does_move (u := (Fl r26)) (ev rfl)) (by dsimp only [List.set]; try rfl) ?_
  refine seqd rfl rfl (does_float (.inr (.inr (.inr rfl))) (ev rfl) (ev rfl)) ?_; rintro _ w33 ⟨r30, rfl, h31, E32⟩
  have X34 := Ext.gr X28 E32
  show wpList _ _ _ _ (fr [(.agg #[(Fl r1), (Fl r3), (Fl r5)]), (Pt b8 0), (Pt b15 0), (Fl r26), Ud, (.agg #[(Fl r1), (Fl r3), (Fl r5)]), (Fl r26), (Fl r26), (Fl r30), Ud, Ud, Ud, Ud, Ud, Ud, Ud, Ud, Ud, Ud, Ud, Ud, Ud, Ud, Ud, Ud]) _
  refine q_is rfl rfl (does_assign (u := (Fl r30)) (ev rfl)) (by dsimp only [List.set]; try rfl) ?_
  refine wpList_nil (hK29 _ _ ?_)
  refine wp_seq_k fun K35 hK35 => ?_
  refine wp_seq_k fun K36 hK36 => ?_
  obtain ⟨β1, hβ1⟩ : ∃ b : Bool, b = (fcmp .eql (ford .f32 (cf .f32 r26) (cf .f32 0))) := ⟨_, rfl⟩
  obtain ⟨β2, hβ2⟩ : ∃ b : Bool, b = (β1 || (!(finF (cf .f32 r26)))) := ⟨_, rfl⟩
  obtain ⟨β3, hβ3⟩ : ∃ b : Bool, b = (β2 || (!(finF (cf .f32 r30)))) := ⟨_, rfl⟩
  refine region_text (
    [Fact.pure [] (fun v => v = (Fl r26)),
    Fact.pure [9] (fun v => v = (Bo β1)),
    Fact.pure [10] (fun v => v = (Bo β1)),
    Fact.pure [11] (fun v => β1 = false → v = (Fl r26)),
    Fact.pure [12, 11] (fun v => β1 = false → v = (Bo (finF (cf .f32 r26)))),
    Fact.pure [13, 11] (fun v => β1 = false → v = (Bo (!(finF (cf .f32 r26))))),
    Fact.pure [11, 14] (fun v => v = (Bo β2)),
    Fact.pure [15] (fun v => v = (Bo β2)),
    Fact.pure [16] (fun v => β2 = false → v = (Fl r30)),
    Fact.pure [17, 16] (fun v => β2 = false → v = (Bo (finF (cf .f32 r30)))),
    Fact.pure [18, 16] (fun v => β2 = false → v = (Bo (!(finF (cf .f32 r30))))),
    Fact.pure [16, 19] (fun v => v = (Bo β3))]) (by simp [Fact.pure, Fact.mem]) ?_
  refine RW_d _ rfl (fun v => by dsimp only [List.set]; try rfl) (fun u hu hF => ?_) (fun v37 => ?_)
  · clear hF
    refine doesG_un rfl ?_
    refine (does_move (u := (Fl r26)) (ev rfl)).mono ?_; rintro _ _ ⟨rfl, rfl⟩
    exact ⟨rfl, Ext.refl _⟩
  refine RW_d _ rfl (fun v => by dsimp only [List.set]; try rfl) (fun u hu hF => ?_) (fun v38 => ?_)
  · have h9_ : v37 = (Fl r26) := hF.1
    clear hF
    refine doesG_un rfl ?_
    obtain rfl := h9_
    refine (does_fcmp (.inl rfl) (ev rfl) (ev rfl)).mono ?_; rintro _ _ ⟨rfl, rfl⟩
    exact ⟨(by first | rfl | (show _ = _; simp only [hβ1])), Ext.refl _⟩
  refine RW_d _ rfl (fun v => by dsimp only [List.set]; try rfl) (fun u hu hF => ?_) (fun v39 => ?_)
  · have h10_ : v38 = (Bo β1) := hF.1
    clear hF
    refine doesG_un rfl ?_
    obtain rfl := h10_
    refine (does_move (u := (Bo β1)) (ev rfl)).mono ?_; rintro _ _ ⟨rfl, rfl⟩
    exact ⟨rfl, Ext.refl _⟩
  refine RW_d _ rfl (fun v => by dsimp only [List.set]; try rfl) (fun u hu hF => ?_) (fun v40 => ?_)
  · have h11_ : v39 = (Bo β1) := hF.1
    clear hF
    obtain rfl := h11_
    refine doesG_g (b := β1) rfl (yld rfl rfl) (fun hg1 => ?_) (fun hc => ⟨fun hg1 => absurd hg1 hc, Ext.refl _⟩)
    refine (does_move (u := (Fl r26)) (ev rfl)).mono ?_; rintro _ _ ⟨rfl, rfl⟩
    exact ⟨fun _ => rfl, Ext.refl _⟩
  refine RW_d _ rfl (fun v => by dsimp only [List.set]; try rfl) (fun u hu hF => ?_) (fun v41 => ?_)
  · have h12_ : β1 = false → v40 = (Fl r26) := hF.1
    have h11_ : v39 = (Bo β1) := hF.2.1
    clear hF
    obtain rfl := h11_
    refine doesG_g (b := β1) rfl (yld rfl rfl) (fun hg1 => ?_) (fun hc => ⟨fun hg1 => absurd hg1 hc, Ext.refl _⟩)
    obtain rfl := h12_ hg1
    refine (does_call (args := #[(Fl r26)]) cal94 (evs rfl) (c_spec_l01Finite r26 _)).mono ?_; rintro v u' ⟨hx, hv⟩
    exact ⟨fun _ => hv, hx⟩
  refine RW_d _ rfl (fun v => by dsimp only [List.set]; try rfl) (fun u hu hF => ?_) (fun v42 => ?_)
  · have h13_ : β1 = false → v41 = (Bo (finF (cf .f32 r26))) := hF.1
    have h11_ : v39 = (Bo β1) := hF.2.1
    clear hF
    obtain rfl := h11_
    refine doesG_g (b := β1) rfl (yld rfl rfl) (fun hg1 => ?_) (fun hc => ⟨fun hg1 => absurd hg1 hc, Ext.refl _⟩)
    obtain rfl := h13_ hg1
    refine (does_not (ev rfl)).mono ?_; rintro _ _ ⟨rfl, rfl⟩
    exact ⟨fun _ => rfl, Ext.refl _⟩
  refine RW_d _ rfl (fun v => by dsimp only [List.set]; try rfl) (fun u hu hF => ?_) (fun v43 => ?_)
  · have h11_ : v39 = (Bo β1) := hF.1
    have h14_ : β1 = false → v42 = (Bo (!(finF (cf .f32 r26)))) := hF.2.1
    clear hF
    refine doesG_un rfl ?_
    skip
    obtain rfl := h11_
    refine (does_pick (b := β1) (ev rfl) (ev rfl) (ev rfl)).mono ?_; rintro _ _ ⟨rfl, rfl⟩; refine ⟨?_, Ext.refl _⟩; rw [hβ2]; skip
    cases hbb : β1 <;> simp [hbb] at h14_ ⊢
    all_goals (first | rfl | (subst h14_; rfl) | simp_all)
  refine RW_d _ rfl (fun v => by dsimp only [List.set]; try rfl) (fun u hu hF => ?_) (fun v44 => ?_)
  · have h15_ : v43 = (Bo β2) := hF.1
    clear hF
    refine doesG_un rfl ?_
    obtain rfl := h15_
    refine (does_move (u := (Bo β2)) (ev rfl)).mono ?_; rintro _ _ ⟨rfl, rfl⟩
    exact ⟨rfl, Ext.refl _⟩
  refine RW_d _ rfl (fun v => by dsimp only [List.set]; try rfl) (fun u hu hF => ?_) (fun v45 => ?_)
  · have h16_ : v44 = (Bo β2) := hF.1
    clear hF
    obtain rfl := h16_
    refine doesG_g (b := β2) rfl (yld rfl rfl) (fun hg1 => ?_) (fun hc => ⟨fun hg1 => absurd hg1 hc, Ext.refl _⟩)
    refine (does_move (u := (Fl r30)) (ev rfl)).mono ?_; rintro _ _ ⟨rfl, rfl⟩
    exact ⟨fun _ => rfl, Ext.refl _⟩
  refine RW_d _ rfl (fun v => by dsimp only [List.set]; try rfl) (fun u hu hF => ?_) (fun v46 => ?_)
  · have h17_ : β2 = false → v45 = (Fl r30) := hF.1
    have h16_ : v44 = (Bo β2) := hF.2.1
    clear hF
    obtain rfl := h16_
    refine doesG_g (b := β2) rfl (yld rfl rfl) (fun hg1 => ?_) (fun hc => ⟨fun hg1 => absurd hg1 hc, Ext.refl _⟩)
    obtain rfl := h17_ hg1
    refine (does_call (args := #[(Fl r30)]) cal94 (evs rfl) (c_spec_l01Finite r30 _)).mono ?_; rintro v u' ⟨hx, hv⟩
    exact ⟨fun _ => hv, hx⟩
  refine RW_d _ rfl (fun v => by dsimp only [List.set]; try rfl) (fun u hu hF => ?_) (fun v47 => ?_)
  · have h18_ : β2 = false → v46 = (Bo (finF (cf .f32 r30))) := hF.1
    have h16_ : v44 = (Bo β2) := hF.2.1
    clear hF
    obtain rfl := h16_
    refine doesG_g (b := β2) rfl (yld rfl rfl) (fun hg1 => ?_) (fun hc => ⟨fun hg1 => absurd hg1 hc, Ext.refl _⟩)
    obtain rfl := h18_ hg1
    refine (does_not (ev rfl)).mono ?_; rintro _ _ ⟨rfl, rfl⟩
    exact ⟨fun _ => rfl, Ext.refl _⟩
  refine RW_d _ rfl (fun v => by dsimp only [List.set]; try rfl) (fun u hu hF => ?_) (fun v48 => ?_)
  · have h16_ : v44 = (Bo β2) := hF.1
    have h19_ : β2 = false → v47 = (Bo (!(finF (cf .f32 r30)))) := hF.2.1
    clear hF
    refine doesG_un rfl ?_
    skip
    obtain rfl := h16_
    refine (does_pick (b := β2) (ev rfl) (ev rfl) (ev rfl)).mono ?_; rintro _ _ ⟨rfl, rfl⟩; refine ⟨?_, Ext.refl _⟩; rw [hβ3]; skip
    cases hbb : β2 <;> simp [hbb] at h19_ ⊢
    all_goals (first | rfl | (subst h19_; rfl) | simp_all)
  refine RW_fin ?_; intro w49 E50 hP51
  obtain ⟨⟨⟨⟨⟨⟨⟨⟨⟨⟨⟨⟨-, -⟩, -⟩, -⟩, -⟩, -⟩, -⟩, -⟩, -⟩, -⟩, -⟩, -⟩, q52⟩ := hP51
  have X53 := Ext.gr X34 E50
  have q52 : v48 = (Bo β3) := q52
  obtain rfl := q52
  show wpList _ _ _ _ (fr [(.agg #[(Fl r1), (Fl r3), (Fl r5)]), (Pt b8 0), (Pt b15 0), (Fl r26), (Fl r30), (.agg #[(Fl r1), (Fl r3), (Fl r5)]), (Fl r26), (Fl r26), (Fl r30), v37, v38, v39, v40, v41, v42, v43, v44, v45, v46, v47, (Bo β3), Ud, Ud, Ud, Ud]) _
  refine wpList_nil (hK36 _ _ ?_)
  refine wp_cond_split (t := β3) (ev rfl) (fun c54 => ?_) (fun c54 => ?_)
  · have c54' := c54
    (try simp only [hβ1, hβ2, hβ3, any2_finF] at c54')
    (try simp only [hβ1, hβ2, hβ3] at c54')
    (try simp only [icmp, Bool.and_eq_true, Bool.or_eq_true, Bool.and_eq_false_iff, Bool.or_eq_false_iff, Bool.not_eq_true', Bool.not_eq_false', decide_eq_true_eq, decide_eq_false_iff_not, beq_iff_eq, bne_iff_ne, beq_eq_false_iff_ne, bne_eq_false_iff_eq] at c54')
    refine wp_seq_k fun K55 hK55 => ?_
    refine wp_region_lit ?_
    refine q_is rfl rfl (does_build (parts' := []) (cells := #[(Fl 0), (Fl 0), (Fl 0)]) (evp rfl) (by kernel_rfl)) (by dsimp only [List.set]; try rfl) ?_
    refine seqn rfl rfl (does_store (n := 3) (cs := [(Fl 0), (Fl 0), (Fl 0)]) (u := (.agg #[(Fl 0), (Fl 0), (Fl 0)])) (ev rfl) (ev rfl) Try.sizeOf26 rfl (((hB17.ext E24).ext E32).ext E50) (Nat.le_of_ble_eq_true rfl) rfl) ?_; rintro _ w58 ⟨rfl, W56, hB57⟩
    change Blk _ _ [(Fl 0), (Fl 0), (Fl 0)] at hB57
    have X59 := Below.wr X53 W56 g21
    refine wpList_nil (hK55 _ _ ?_)
    refine wp_ret ?_
    dsimp only [Exit.then, Exit.inBlock]
    refine ret_val (v := (.agg #[(Fl 0), (Fl 0), (Fl 0)])) (res_C rfl (slot rfl) (run_loadAgg (cs := [(Fl 0), (Fl 0), (Fl 0)]) Try.isAgg26 Try.sizeOf26 (Blk.cells hB57) rfl)) X59 ?_
    try simp only [h2, h4, h6, h27, h31, hβ1, hβ2, hβ3, any2_finF] at c54
    have x60 : cf .f32 0 = (unitF A_v).x := by first | (rw [unit_zero1 (by assumption)]; rfl) | (rw [unit_zero2 (by assumption)]; rfl) | (rw [unit_by1 (by assumption)]; simp only [vscale, h2, h4, h6, h27, h31, hβ1, hβ2, hβ3, c54]; done) | (rw [unit_by2 (by assumption)]; simp only [vscale, h2, h4, h6, h27, h31, hβ1, hβ2, hβ3, c54]; done)
    have x61 : cf .f32 0 = (unitF A_v).y := by first | (rw [unit_zero1 (by assumption)]; rfl) | (rw [unit_zero2 (by assumption)]; rfl) | (rw [unit_by1 (by assumption)]; simp only [vscale, h2, h4, h6, h27, h31, hβ1, hβ2, hβ3, c54]; done) | (rw [unit_by2 (by assumption)]; simp only [vscale, h2, h4, h6, h27, h31, hβ1, hβ2, hβ3, c54]; done)
    have x62 : cf .f32 0 = (unitF A_v).z := by first | (rw [unit_zero1 (by assumption)]; rfl) | (rw [unit_zero2 (by assumption)]; rfl) | (rw [unit_by1 (by assumption)]; simp only [vscale, h2, h4, h6, h27, h31, hβ1, hβ2, hβ3, c54]; done) | (rw [unit_by2 (by assumption)]; simp only [vscale, h2, h4, h6, h27, h31, hβ1, hβ2, hβ3, c54]; done)
    exact ⟨[(Fl 0), (Fl 0), (Fl 0)], rfl, ⟨0, 0, 0, rfl, x60, x61, x62⟩⟩
  have c54' := c54
  (try simp only [hβ1, hβ2, hβ3, any2_finF] at c54')
  (try simp only [hβ1, hβ2, hβ3] at c54')
  (try simp only [icmp, Bool.and_eq_true, Bool.or_eq_true, Bool.and_eq_false_iff, Bool.or_eq_false_iff, Bool.not_eq_true', Bool.not_eq_false', decide_eq_true_eq, decide_eq_false_iff_not, beq_iff_eq, bne_iff_ne, beq_eq_false_iff_ne, bne_eq_false_iff_eq] at c54')
  refine wp_skip (hK35 _ _ ?_)
  refine wp_seq_k fun K63 hK63 => ?_
  refine wp_region_lit ?_
  refine q_is rfl rfl (does_loadAgg (cs := [(Fl r1), (Fl r3), (Fl r5)]) (ev rfl) Try.isAgg26 Try.sizeOf26 (Blk.cells ((((hB10.ext E18).ext E24).ext E32).ext E50)) rfl) (by dsimp only [List.set]; try rfl) ?_
  refine q_is rfl rfl (does_move (u := (Fl r30)) (ev rfl)) (by dsimp only [List.set]; try rfl) ?_
  refine seqd rfl rfl (does_call (args := #[(.agg #[(Fl r1), (Fl r3), (Fl r5)]), (Fl r30)]) cal86 (evs rfl) (c_spec_l01Scale [(Fl r1), (Fl r3), (Fl r5)] A_v r30 _ ⟨r1, r3, r5, rfl, h2, h4, h6⟩)) ?_; rintro _ w65 ⟨E64, ⟨_, rfl, ⟨r66, r68, r70, rfl, h67, h69, h71⟩⟩⟩
  have X72 := Ext.gr X53 E64
  show wpList _ _ _ _ (fr [(.agg #[(Fl r1), (Fl r3), (Fl r5)]), (Pt b8 0), (Pt b15 0), (Fl r26), (Fl r30), (.agg #[(Fl r1), (Fl r3), (Fl r5)]), (Fl r26), (Fl r26), (Fl r30), v37, v38, v39, v40, v41, v42, v43, v44, v45, v46, v47, (Bo β3), Ud, (.agg #[(Fl r1), (Fl r3), (Fl r5)]), (Fl r30), (.agg #[(Fl r66), (Fl r68), (Fl r70)])]) _
  refine seqn rfl rfl (does_store (n := 3) (cs := [(Fl 0), (Fl 0), (Fl 0)]) (u := (.agg #[(Fl r66), (Fl r68), (Fl r70)])) (ev rfl) (ev rfl) Try.sizeOf26 rfl ((((hB17.ext E24).ext E32).ext E50).ext E64) (Nat.le_of_ble_eq_true rfl) rfl) ?_; rintro _ w75 ⟨rfl, W73, hB74⟩
  change Blk _ _ [(Fl r66), (Fl r68), (Fl r70)] at hB74
  have X76 := Below.wr X72 W73 g21
  refine wpList_nil (hK63 _ _ ?_)
  refine wp_ret ?_
  refine ret_val (v := (.agg #[(Fl r66), (Fl r68), (Fl r70)])) (res_C rfl (slot rfl) (run_loadAgg (cs := [(Fl r66), (Fl r68), (Fl r70)]) Try.isAgg26 Try.sizeOf26 (Blk.cells hB74) rfl)) X76 ?_
  try simp only [h2, h4, h6, h27, h31, hβ1, hβ2, hβ3, h67, h69, h71, any2_finF] at c54
  have x77 : cf .f32 r66 = (unitF A_v).x := by first | (rw [unit_zero1 (by assumption)]; rfl) | (rw [unit_zero2 (by assumption)]; rfl) | (rw [unit_by1 (by assumption)]; simp only [vscale, h2, h4, h6, h27, h31, hβ1, hβ2, hβ3, h67, h69, h71, c54]; done) | (rw [unit_by2 (by assumption)]; simp only [vscale, h2, h4, h6, h27, h31, hβ1, hβ2, hβ3, h67, h69, h71, c54]; done)
  have x78 : cf .f32 r68 = (unitF A_v).y := by first | (rw [unit_zero1 (by assumption)]; rfl) | (rw [unit_zero2 (by assumption)]; rfl) | (rw [unit_by1 (by assumption)]; simp only [vscale, h2, h4, h6, h27, h31, hβ1, hβ2, hβ3, h67, h69, h71, c54]; done) | (rw [unit_by2 (by assumption)]; simp only [vscale, h2, h4, h6, h27, h31, hβ1, hβ2, hβ3, h67, h69, h71, c54]; done)
  have x79 : cf .f32 r70 = (unitF A_v).z := by first | (rw [unit_zero1 (by assumption)]; rfl) | (rw [unit_zero2 (by assumption)]; rfl) | (rw [unit_by1 (by assumption)]; simp only [vscale, h2, h4, h6, h27, h31, hβ1, hβ2, hβ3, h67, h69, h71, c54]; done) | (rw [unit_by2 (by assumption)]; simp only [vscale, h2, h4, h6, h27, h31, hβ1, hβ2, hβ3, h67, h69, h71, c54]; done)
  exact ⟨[(Fl r66), (Fl r68), (Fl r70)], rfl, ⟨r66, r68, r70, rfl, x77, x78, x79⟩⟩

/- spec.l01Less -/
theorem c_spec_l01Less (a : List Value) (A_a : V3) (b : List Value) (A_b : V3) (w : World) (hv_a : RV3 w A_a a) (hv_b : RV3 w A_b b) : Gives Try.prog 85 #[(.agg a.toArray), (.agg b.toArray)] w (fun v w' => ∃ cs_1 : List Value, v = (.agg cs_1.toArray) ∧ RV3 w (vsub A_a A_b) cs_1) := by
  obtain ⟨r1, r3, r5, rfl, h2, h4, h6⟩ := hv_a
  obtain ⟨r7, r9, r11, rfl, h8, h10, h12⟩ := hv_b
  refine enter [(.agg #[(Fl r1), (Fl r3), (Fl r5)]), (.agg #[(Fl r7), (Fl r9), (Fl r11)]), Ud, Ud, Ud, Ud, Ud, Ud, Ud, Ud, Ud, Ud, Ud, Ud, Ud, Ud, Ud, Ud, Ud, Ud, Ud] Try.func85 rfl Try.ntmps85 rfl ?_
  refine wp_seq_k fun K13 hK13 => ?_
  refine wp_region_lit ?_
  refine seqd rfl rfl (does_box (u := (.agg #[(Fl r1), (Fl r3), (Fl r5)])) (ev rfl)) ?_; rintro _ w18 ⟨b14, rfl, hb15, hB16, E17⟩
  have g19 : w.heap.size ≤ b14 := Nat.le_trans (Below.size (Ext.refl w)) hb15
  change Blk _ _ [(Fl r1), (Fl r3), (Fl r5)] at hB16
  have X20 := Ext.gr (Ext.refl w) E17
  show wpList _ _ _ _ (fr [(.agg #[(Fl r1), (Fl r3), (Fl r5)]), (.agg #[(Fl r7), (Fl r9), (Fl r11)]), (Pt b14 0), Ud, Ud, Ud, Ud, Ud, Ud, Ud, Ud, Ud, Ud, Ud, Ud, Ud, Ud, Ud, Ud, Ud, Ud]) _
  refine seqd rfl rfl (does_box (u := (.agg #[(Fl r7), (Fl r9), (Fl r11)])) (ev rfl)) ?_; rintro _ w25 ⟨b21, rfl, hb22, hB23, E24⟩
  have n26 : b14 < b21 := Nat.lt_of_lt_of_le (Blk.lt hB16) hb22
  have g27 : w.heap.size ≤ b21 := Nat.le_trans (Below.size X20) hb22
  change Blk _ _ [(Fl r7), (Fl r9), (Fl r11)] at hB23
  have X28 := Ext.gr X20 E24
  show wpList _ _ _ _ (fr [(.agg #[(Fl r1), (Fl r3), (Fl r5)]), (.agg #[(Fl r7), (Fl r9), (Fl r11)]), (Pt b14 0), (Pt b21 0), Ud, Ud, Ud, Ud, Ud, Ud, Ud, Ud, Ud, Ud, Ud, Ud, Ud, Ud, Ud, Ud, Ud]) _
  refine seqd rfl rfl (does_alloc z26) ?_; rintro _ w33 ⟨b29, rfl, hb30, hB31, E32⟩
  have n34 : b14 < b29 := Nat.lt_of_lt_of_le (Blk.lt (hB16.ext E24)) hb30
  have n35 : b21 < b29 := Nat.lt_of_lt_of_le (Blk.lt hB23) hb30
  have g36 : w.heap.size ≤ b29 := Nat.le_trans (Below.size X28) hb30
  change Blk _ _ [(Fl 0), (Fl 0), (Fl 0)] at hB31
  have X37 := Ext.gr X28 E32
  show wpList _ _ _ _ (fr [(.agg #[(Fl r1), (Fl r3), (Fl r5)]), (.agg #[(Fl r7), (Fl r9), (Fl r11)]), (Pt b14 0), (Pt b21 0), (Pt b29 0), Ud, Ud, Ud, Ud, Ud, Ud, Ud, Ud, Ud, Ud, Ud, Ud, Ud, Ud, Ud, Ud]) _
  refine wpList_nil (hK13 _ _ ?_)
  refine wp_seq_k fun K38 hK38 => ?_
  refine wp_region_lit ?_
  refine q_is (l' := [(.agg #[(Fl r1), (Fl r3), (Fl r5)]), (.agg #[(Fl r7), (Fl r9), (Fl r11)]), (Pt b14 0), (Pt b21 0), (Pt b29 0), (Pt b14 0), Ud, Ud, Ud, Ud, Ud, Ud, Ud, Ud, Ud, Ud, Ud, Ud, Ud, Ud, Ud]) rfl rfl (does_fieldAddr (ev rfl) fa26_0) rfl ?_
  refine q_is (l' := [(.agg #[(Fl r1), (Fl r3), (Fl r5)]), (.agg #[(Fl r7), (Fl r9), (Fl r11)]), (Pt b14 0), (Pt b21 0), (Pt b29 0), (Pt b14 0), (Fl r1), Ud, Ud, Ud, Ud, Ud, Ud, Ud, Ud, Ud, Ud, Ud, Ud, Ud, Ud]) rfl rfl (does_load (u := (Fl r1)) (ev rfl) Try.isAgg24 (Cells.at (Blk.cells ((hB16.ext E24).ext E32)) 0 rfl)) rfl ?_
  refine q_is (l' := [(.agg #[(Fl r1), (Fl r3), (Fl r5)]), (.agg #[(Fl r7), (Fl r9), (Fl r11)]), (Pt b14 0), (Pt b21 0), (Pt b29 0), (Pt b14 0), (Fl r1), (Pt b21 0), Ud, Ud, Ud, Ud, Ud, Ud, Ud, Ud, Ud, Ud, Ud, Ud, Ud]) rfl rfl (does_fieldAddr (ev rfl) fa26_0) rfl ?_
  refine q_is (l' := [(.agg #[(Fl r1), (Fl r3), (Fl r5)]), (.agg #[(Fl r7), (Fl r9), (Fl r11)]), (Pt b14 0), (Pt b21 0), (Pt b29 0), (Pt b14 0), (Fl r1), (Pt b21 0), (Fl r7), Ud, Ud, Ud, Ud, Ud, Ud, Ud, Ud, Ud, Ud, Ud, Ud]) rfl rfl (does_load (u := (Fl r7)) (ev rfl) Try.isAgg24 (Cells.at (Blk.cells (hB23.ext E32)) 0 rfl)) rfl ?_
  refine seqd rfl rfl (does_float (.inr (.inl rfl)) (ev rfl) (ev rfl)) ?_; rintro _ w42 ⟨r39, rfl, h40, E41⟩
  have X43 := Ext.gr X37 E41
  show wpList _ _ _ _ (fr [(.agg #[(Fl r1), (Fl r3), (Fl r5)]), (.agg #[(Fl r7), (Fl r9), (Fl r11)]), (Pt b14 0), (Pt b21 0), (Pt b29 0), (Pt b14 0), (Fl r1), (Pt b21 0), (Fl r7), (Fl r39), Ud, Ud, Ud, Ud, Ud, Ud, Ud, Ud, Ud, Ud, Ud]) _
  refine q_is (l' := [(.agg #[(Fl r1), (Fl r3), (Fl r5)]), (.agg #[(Fl r7), (Fl r9), (Fl r11)]), (Pt b14 0), (Pt b21 0), (Pt b29 0), (Pt b14 0), (Fl r1), (Pt b21 0), (Fl r7), (Fl r39), (Pt b14 1), Ud, Ud, Ud, Ud, Ud, Ud, Ud, Ud, Ud, Ud]) rfl rfl (does_fieldAddr (ev rfl) fa26_1) rfl ?_
  refine q_is (l' := [(.agg #[(Fl r1), (Fl r3), (Fl r5)]), (.agg #[(Fl r7), (Fl r9), (Fl r11)]), (Pt b14 0), (Pt b21 0), (Pt b29 0), (Pt b14 0), (Fl r1), (Pt b21 0), (Fl r7), (Fl r39), (Pt b14 1), (Fl r3), Ud, Ud, Ud, Ud, Ud, Ud, Ud, Ud, Ud]) rfl rfl (does_load (u := (Fl r3)) (ev rfl) Try.isAgg24 (Cells.at (Blk.cells (((hB16.ext E24).ext E32).ext E41)) 1 rfl)) rfl ?_
  refine q_is (l' := [(.agg #[(Fl r1), (Fl r3), (Fl r5)]), (.agg #[(Fl r7), (Fl r9), (Fl r11)]), (Pt b14 0), (Pt b21 0), (Pt b29 0), (Pt b14 0), (Fl r1), (Pt b21 0), (Fl r7), (Fl r39), (Pt b14 1), (Fl r3), (Pt b21 1), Ud, Ud, Ud, Ud, Ud, Ud, Ud, Ud]) rfl rfl (does_fieldAddr (ev rfl) fa26_1) rfl ?_
  refine q_is (l' := [(.agg #[(Fl r1), (Fl r3), (Fl r5)]), (.agg #[(Fl r7), (Fl r9), (Fl r11)]), (Pt b14 0), (Pt b21 0), (Pt b29 0), (Pt b14 0), (Fl r1), (Pt b21 0), (Fl r7), (Fl r39), (Pt b14 1), (Fl r3), (Pt b21 1), (Fl r9), Ud, Ud, Ud, Ud, Ud, Ud, Ud]) rfl rfl (does_load (u := (Fl r9)) (ev rfl) Try.isAgg24 (Cells.at (Blk.cells ((hB23.ext E32).ext E41)) 1 rfl)) rfl ?_
  refine seqd rfl rfl (does_float (.inr (.inl rfl)) (ev rfl) (ev rfl)) ?_; rintro _ w47 ⟨r44, rfl, h45, E46⟩
  have X48 := Ext.gr X43 E46
  show wpList _ _ _ _ (fr [(.agg #[(Fl r1), (Fl r3), (Fl r5)]), (.agg #[(Fl r7), (Fl r9), (Fl r11)]), (Pt b14 0), (Pt b21 0), (Pt b29 0), (Pt b14 0), (Fl r1), (Pt b21 0), (Fl r7), (Fl r39), (Pt b14 1), (Fl r3), (Pt b21 1), (Fl r9), (Fl r44), Ud, Ud, Ud, Ud, Ud, Ud]) _
  refine q_is (l' := [(.agg #[(Fl r1), (Fl r3), (Fl r5)]), (.agg #[(Fl r7), (Fl r9), (Fl r11)]), (Pt b14 0), (Pt b21 0), (Pt b29 0), (Pt b14 0), (Fl r1), (Pt b21 0), (Fl r7), (Fl r39), (Pt b14 1), (Fl r3), (Pt b21 1), (Fl r9), (Fl r44), (Pt b14 2), Ud, Ud, Ud, Ud, Ud]) rfl rfl (does_fieldAddr (ev rfl) fa26_2) rfl ?_
  refine q_is (l' := [(.agg #[(Fl r1), (Fl r3), (Fl r5)]), (.agg #[(Fl r7), (Fl r9), (Fl r11)]), (Pt b14 0), (Pt b21 0), (Pt b29 0), (Pt b14 0), (Fl r1), (Pt b21 0), (Fl r7), (Fl r39), (Pt b14 1), (Fl r3), (Pt b21 1), (Fl r9), (Fl r44), (Pt b14 2), (Fl r5), Ud, Ud, Ud, Ud]) rfl rfl (does_load (u := (Fl r5)) (ev rfl) Try.isAgg24 (Cells.at (Blk.cells ((((hB16.ext E24).ext E32).ext E41).ext E46)) 2 rfl)) rfl ?_
  refine q_is (l' := [(.agg #[(Fl r1), (Fl r3), (Fl r5)]), (.agg #[(Fl r7), (Fl r9), (Fl r11)]), (Pt b14 0), (Pt b21 0), (Pt b29 0), (Pt b14 0), (Fl r1), (Pt b21 0), (Fl r7), (Fl r39), (Pt b14 1), (Fl r3), (Pt b21 1), (Fl r9), (Fl r44), (Pt b14 2), (Fl r5), (Pt b21 2), Ud, Ud, Ud]) rfl rfl (does_fieldAddr (ev rfl) fa26_2) rfl ?_
  refine q_is (l' := [(.agg #[(Fl r1), (Fl r3), (Fl r5)]), (.agg #[(Fl r7), (Fl r9), (Fl r11)]), (Pt b14 0), (Pt b21 0), (Pt b29 0), (Pt b14 0), (Fl r1), (Pt b21 0), (Fl r7), (Fl r39), (Pt b14 1), (Fl r3), (Pt b21 1), (Fl r9), (Fl r44), (Pt b14 2), (Fl r5), (Pt b21 2), (Fl r11), Ud, Ud]) rfl rfl (does_load (u := (Fl r11)) (ev rfl) Try.isAgg24 (Cells.at (Blk.cells (((hB23.ext E32).ext E41).ext E46)) 2 rfl)) rfl ?_
  refine seqd rfl rfl (does_float (.inr (.inl rfl)) (ev rfl) (ev rfl)) ?_; rintro _ w52 ⟨r49, rfl, h50, E51⟩
  have X53 := Ext.gr X48 E51
  show wpList _ _ _ _ (fr [(.agg #[(Fl r1), (Fl r3), (Fl r5)]), (.agg #[(Fl r7), (Fl r9), (Fl r11)]), (Pt b14 0), (Pt b21 0), (Pt b29 0), (Pt b14 0), (Fl r1), (Pt b21 0), (Fl r7), (Fl r39), (Pt b14 1), (Fl r3), (Pt b21 1), (Fl r9), (Fl r44), (Pt b14 2), (Fl r5), (Pt b21 2), (Fl r11), (Fl r49), Ud]) _
  refine q_is (l' := [(.agg #[(Fl r1), (Fl r3), (Fl r5)]), (.agg #[(Fl r7), (Fl r9), (Fl r11)]), (Pt b14 0), (Pt b21 0), (Pt b29 0), (Pt b14 0), (Fl r1), (Pt b21 0), (Fl r7), (Fl r39), (Pt b14 1), (Fl r3), (Pt b21 1), (Fl r9), (Fl r44), (Pt b14 2), (Fl r5), (Pt b21 2), (Fl r11), (Fl r49), (.agg #[(Fl r39), (Fl r44), (Fl r49)])]) rfl rfl (does_build (parts' := [(0, (Fl r39)), (1, (Fl r44)), (2, (Fl r49))]) (cells := #[(Fl r39), (Fl r44), (Fl r49)]) (evp rfl) (by kernel_rfl)) rfl ?_
  refine seqn rfl rfl (does_store (n := 3) (cs := [(Fl 0), (Fl 0), (Fl 0)]) (u := (.agg #[(Fl r39), (Fl r44), (Fl r49)])) (ev rfl) (ev rfl) Try.sizeOf26 rfl (((hB31.ext E41).ext E46).ext E51) (Nat.le_of_ble_eq_true rfl) rfl) ?_; rintro _ w56 ⟨rfl, W54, hB55⟩
  change Blk _ _ [(Fl r39), (Fl r44), (Fl r49)] at hB55
  have X57 := Below.wr X53 W54 g36
  refine wpList_nil (hK38 _ _ ?_)
  refine wp_ret ?_
  refine ret_val (v := (.agg #[(Fl r39), (Fl r44), (Fl r49)])) (res_C rfl (slot rfl) (run_loadAgg (cs := [(Fl r39), (Fl r44), (Fl r49)]) Try.isAgg26 Try.sizeOf26 (Blk.cells hB55) rfl)) X57 ?_
  have x58 : cf .f32 r39 = (vsub A_a A_b).x := by first | with_reducible rfl | (simp only [vsub, h2, h4, h6, h8, h10, h12, h40, h45, h50]; done) | (simp [vsub, h2, h4, h6, h8, h10, h12, h40, h45, h50]; done) | rfl
  have x59 : cf .f32 r44 = (vsub A_a A_b).y := by first | with_reducible rfl | (simp only [vsub, h2, h4, h6, h8, h10, h12, h40, h45, h50]; done) | (simp [vsub, h2, h4, h6, h8, h10, h12, h40, h45, h50]; done) | rfl
  have x60 : cf .f32 r49 = (vsub A_a A_b).z := by first | with_reducible rfl | (simp only [vsub, h2, h4, h6, h8, h10, h12, h40, h45, h50]; done) | (simp [vsub, h2, h4, h6, h8, h10, h12, h40, h45, h50]; done) | rfl
  exact ⟨[(Fl r39), (Fl r44), (Fl r49)], rfl, ⟨r39, r44, r49, rfl, x58, x59, x60⟩⟩

/- spec.l01Cross -/
theorem c_spec_l01Cross (a : List Value) (A_a : V3) (b : List Value) (A_b : V3) (w : World) (hv_a : RV3 w A_a a) (hv_b : RV3 w A_b b) : Gives Try.prog 105 #[(.agg a.toArray), (.agg b.toArray)] w (fun v w' => ∃ cs_1 : List Value, v = (.agg cs_1.toArray) ∧ RV3 w (crossF A_a A_b) cs_1) := by
  obtain ⟨r1, r3, r5, rfl, h2, h4, h6⟩ := hv_a
  obtain ⟨r7, r9, r11, rfl, h8, h10, h12⟩ := hv_b
  refine enter [(.agg #[(Fl r1), (Fl r3), (Fl r5)]), (.agg #[(Fl r7), (Fl r9), (Fl r11)]), Ud, Ud, Ud, Ud, Ud, Ud, Ud, Ud, Ud, Ud, Ud, Ud, Ud, Ud, Ud, Ud, Ud, Ud, Ud, Ud, Ud, Ud, Ud, Ud, Ud, Ud, Ud, Ud, Ud, Ud, Ud, Ud, Ud, Ud, Ud, Ud, Ud] Try.func105 rfl Try.ntmps105 rfl ?_
  refine wp_seq_k fun K13 hK13 => ?_
  refine wp_region_lit ?_
  refine seqd rfl rfl (does_box (u := (.agg #[(Fl r1), (Fl r3), (Fl r5)])) (ev rfl)) ?_; rintro _ w18 ⟨b14, rfl, hb15, hB16, E17⟩
  have g19 : w.heap.size ≤ b14 := Nat.le_trans (Below.size (Ext.refl w)) hb15
  change Blk _ _ [(Fl r1), (Fl r3), (Fl r5)] at hB16
  have X20 := Ext.gr (Ext.refl w) E17
  show wpList _ _ _ _ (fr [(.agg #[(Fl r1), (Fl r3), (Fl r5)]), (.agg #[(Fl r7), (Fl r9), (Fl r11)]), (Pt b14 0), Ud, Ud, Ud, Ud, Ud, Ud, Ud, Ud, Ud, Ud, Ud, Ud, Ud, Ud, Ud, Ud, Ud, Ud, Ud, Ud, Ud, Ud, Ud, Ud, Ud, Ud, Ud, Ud, Ud, Ud, Ud, Ud, Ud, Ud, Ud, Ud]) _
  refine seqd rfl rfl (does_box (u := (.agg #[(Fl r7), (Fl r9), (Fl r11)])) (ev rfl)) ?_; rintro _ w25 ⟨b21, rfl, hb22, hB23, E24⟩
  have n26 : b14 < b21 := Nat.lt_of_lt_of_le (Blk.lt hB16) hb22
  have g27 : w.heap.size ≤ b21 := Nat.le_trans (Below.size X20) hb22
  change Blk _ _ [(Fl r7), (Fl r9), (Fl r11)] at hB23
  have X28 := Ext.gr X20 E24
  show wpList _ _ _ _ (fr [(.agg #[(Fl r1), (Fl r3), (Fl r5)]), (.agg #[(Fl r7), (Fl r9), (Fl r11)]), (Pt b14 0), (Pt b21 0), Ud, Ud, Ud, Ud, Ud, Ud, Ud, Ud, Ud, Ud, Ud, Ud, Ud, Ud, Ud, Ud, Ud, Ud, Ud, Ud, Ud, Ud, Ud, Ud, Ud, Ud, Ud, Ud, Ud, Ud, Ud, Ud, Ud, Ud, Ud]) _
  refine seqd rfl rfl (does_alloc z26) ?_; rintro _ w33 ⟨b29, rfl, hb30, hB31, E32⟩
  have n34 : b14 < b29 := Nat.lt_of_lt_of_le (Blk.lt (hB16.ext E24)) hb30
  have n35 : b21 < b29 := Nat.lt_of_lt_of_le (Blk.lt hB23) hb30
  have g36 : w.heap.size ≤ b29 := Nat.le_trans (Below.size X28) hb30
  change Blk _ _ [(Fl 0), (Fl 0), (Fl 0)] at hB31
  have X37 := Ext.gr X28 E32
  show wpList _ _ _ _ (fr [(.agg #[(Fl r1), (Fl r3), (Fl r5)]), (.agg #[(Fl r7), (Fl r9), (Fl r11)]), (Pt b14 0), (Pt b21 0), (Pt b29 0), Ud, Ud, Ud, Ud, Ud, Ud, Ud, Ud, Ud, Ud, Ud, Ud, Ud, Ud, Ud, Ud, Ud, Ud, Ud, Ud, Ud, Ud, Ud, Ud, Ud, Ud, Ud, Ud, Ud, Ud, Ud, Ud, Ud, Ud]) _
  refine wpList_nil (hK13 _ _ ?_)
  refine wp_seq_k fun K38 hK38 => ?_
  refine wp_region_lit ?_
  refine q_is rfl rfl (does_fieldAddr (ev rfl) fa26_1) (by dsimp only [List.set]; try rfl) ?_
  refine q_is rfl rfl (does_load (u := (Fl r3)) (ev rfl) Try.isAgg24 (Cells.at (Blk.cells ((hB16.ext E24).ext E32)) 1 rfl)) (by dsimp only [List.set]; try rfl) ?_
  refine q_is rfl rfl (does_fieldAddr (ev rfl) fa26_2) (by dsimp only [List.set]; try rfl) ?_
  refine q_is rfl rfl (does_load (u := (Fl r11)) (ev rfl) Try.isAgg24 (Cells.at (Blk.cells (hB23.ext E32)) 2 rfl)) (by dsimp only [List.set]; try rfl) ?_
  refine seqd rfl rfl (does_float (.inr (.inr (.inl rfl))) (ev rfl) (ev rfl)) ?_; rintro _ w42 ⟨r39, rfl, h40, E41⟩
  have X43 := Ext.gr X37 E41
  show wpList _ _ _ _ (fr [(.agg #[(Fl r1), (Fl r3), (Fl r5)]), (.agg #[(Fl r7), (Fl r9), (Fl r11)]), (Pt b14 0), (Pt b21 0), (Pt b29 0), (Pt b14 1), (Fl r3), (Pt b21 2), (Fl r11), (Fl r39), Ud, Ud, Ud, Ud, Ud, Ud, Ud, Ud, Ud, Ud, Ud, Ud, Ud, Ud, Ud, Ud, Ud, Ud, Ud, Ud, Ud, Ud, Ud, Ud, Ud, Ud, Ud, Ud, Ud]) _
  refine q_is rfl rfl (does_fieldAddr (ev rfl) fa26_2) (by dsimp only [List.set]; try rfl) ?_
  refine q_is rfl rfl (does_load (u := (Fl r5)) (ev rfl) Try.isAgg24 (Cells.at (Blk.cells (((hB16.ext E24).ext E32).ext E41)) 2 rfl)) (by dsimp only [List.set]; try rfl) ?_
  refine q_is rfl rfl (does_fieldAddr (ev rfl) fa26_1) (by dsimp only [List.set]; try rfl) ?_
  refine q_is rfl rfl (does_load (u := (Fl r9)) (ev rfl) Try.isAgg24 (Cells.at (Blk.cells ((hB23.ext E32).ext E41)) 1 rfl)) (by dsimp only [List.set]; try rfl) ?_
  refine seqd rfl rfl (does_float (.inr (.inr (.inl rfl))) (ev rfl) (ev rfl)) ?_; rintro _ w47 ⟨r44, rfl, h45, E46⟩
  have X48 := Ext.gr X43 E46
  show wpList _ _ _ _ (fr [(.agg #[(Fl r1), (Fl r3), (Fl r5)]), (.agg #[(Fl r7), (Fl r9), (Fl r11)]), (Pt b14 0), (Pt b21 0), (Pt b29 0), (Pt b14 1), (Fl r3), (Pt b21 2), (Fl r11), (Fl r39), (Pt b14 2), (Fl r5), (Pt b21 1), (Fl r9), (Fl r44), Ud, Ud, Ud, Ud, Ud, Ud, Ud, Ud, Ud, Ud, Ud, Ud, Ud, Ud, Ud, Ud, Ud, Ud, Ud, Ud, Ud, Ud, Ud, Ud]) _
  refine seqd rfl rfl (does_float (.inr (.inl rfl)) (ev rfl) (ev rfl)) ?_; rintro _ w52 ⟨r49, rfl, h50, E51⟩
  have X53 := Ext.gr X48 E51
  show wpList _ _ _ _ (fr [(.agg #[(Fl r1), (Fl r3), (Fl r5)]), (.agg #[(Fl r7), (Fl r9), (Fl r11)]), (Pt b14 0), (Pt b21 0), (Pt b29 0), (Pt b14 1), (Fl r3), (Pt b21 2), (Fl r11), (Fl r39), (Pt b14 2), (Fl r5), (Pt b21 1), (Fl r9), (Fl r44), (Fl r49), Ud, Ud, Ud, Ud, Ud, Ud, Ud, Ud, Ud, Ud, Ud, Ud, Ud, Ud, Ud, Ud, Ud, Ud, Ud, Ud, Ud, Ud, Ud]) _
  refine q_is rfl rfl (does_fieldAddr (ev rfl) fa26_2) (by dsimp only [List.set]; try rfl) ?_
  refine q_is rfl rfl (does_load (u := (Fl r5)) (ev rfl) Try.isAgg24 (Cells.at (Blk.cells (((((hB16.ext E24).ext E32).ext E41).ext E46).ext E51)) 2 rfl)) (by dsimp only [List.set]; try rfl) ?_
  refine q_is rfl rfl (does_fieldAddr (ev rfl) fa26_0) (by dsimp only [List.set]; try rfl) ?_
  refine q_is rfl rfl (does_load (u := (Fl r7)) (ev rfl) Try.isAgg24 (Cells.at (Blk.cells ((((hB23.ext E32).ext E41).ext E46).ext E51)) 0 rfl)) (by dsimp only [List.set]; try rfl) ?_
  refine seqd rfl rfl (does_float (.inr (.inr (.inl rfl))) (ev rfl) (ev rfl)) ?_; rintro _ w57 ⟨r54, rfl, h55, E56⟩
  have X58 := Ext.gr X53 E56
  show wpList _ _ _ _ (fr [(.agg #[(Fl r1), (Fl r3), (Fl r5)]), (.agg #[(Fl r7), (Fl r9), (Fl r11)]), (Pt b14 0), (Pt b21 0), (Pt b29 0), (Pt b14 1), (Fl r3), (Pt b21 2), (Fl r11), (Fl r39), (Pt b14 2), (Fl r5), (Pt b21 1), (Fl r9), (Fl r44), (Fl r49), (Pt b14 2), (Fl r5), (Pt b21 0), (Fl r7), (Fl r54), Ud, Ud, Ud, Ud, Ud, Ud, Ud, Ud, Ud, Ud, Ud, Ud, Ud, Ud, Ud, Ud, Ud, Ud]) _
  refine q_is rfl rfl (does_fieldAddr (ev rfl) fa26_0) (by dsimp only [List.set]; try rfl) ?_
  refine q_is rfl rfl (does_load (u := (Fl r1)) (ev rfl) Try.isAgg24 (Cells.at (Blk.cells ((((((hB16.ext E24).ext E32).ext E41).ext E46).ext E51).ext E56)) 0 rfl)) (by dsimp only [List.set]; try rfl) ?_
  refine q_is rfl rfl (does_fieldAddr (ev rfl) fa26_2) (by dsimp only [List.set]; try rfl) ?_
  refine q_is rfl rfl (does_load (u := (Fl r11)) (ev rfl) Try.isAgg24 (Cells.at (Blk.cells (((((hB23.ext E32).ext E41).ext E46).ext E51).ext E56)) 2 rfl)) (by dsimp only [List.set]; try rfl) ?_
  refine seqd rfl rfl (does_float (.inr (.inr (.inl rfl))) (ev rfl) (ev rfl)) ?_; rintro _ w62 ⟨r59, rfl, h60, E61⟩
  have X63 := Ext.gr X58 E61
  show wpList _ _ _ _ (fr [(.agg #[(Fl r1), (Fl r3), (Fl r5)]), (.agg #[(Fl r7), (Fl r9), (Fl r11)]), (Pt b14 0), (Pt b21 0), (Pt b29 0), (Pt b14 1), (Fl r3), (Pt b21 2), (Fl r11), (Fl r39), (Pt b14 2), (Fl r5), (Pt b21 1), (Fl r9), (Fl r44), (Fl r49), (Pt b14 2), (Fl r5), (Pt b21 0), (Fl r7), (Fl r54), (Pt b14 0), (Fl r1), (Pt b21 2), (Fl r11), (Fl r59), Ud, Ud, Ud, Ud, Ud, Ud, Ud, Ud, Ud, Ud, Ud, Ud, Ud]) _
  refine seqd rfl rfl (does_float (.inr (.inl rfl)) (ev rfl) (ev rfl)) ?_; rintro _ w67 ⟨r64, rfl, h65, E66⟩
  have X68 := Ext.gr X63 E66
  show wpList _ _ _ _ (fr [(.agg #[(Fl r1), (Fl r3), (Fl r5)]), (.agg #[(Fl r7), (Fl r9), (Fl r11)]), (Pt b14 0), (Pt b21 0), (Pt b29 0), (Pt b14 1), (Fl r3), (Pt b21 2), (Fl r11), (Fl r39), (Pt b14 2), (Fl r5), (Pt b21 1), (Fl r9), (Fl r44), (Fl r49), (Pt b14 2), (Fl r5), (Pt b21 0), (Fl r7), (Fl r54), (Pt b14 0), (Fl r1), (Pt b21 2), (Fl r11), (Fl r59), (Fl r64), Ud, Ud, Ud, Ud, Ud, Ud, Ud, Ud, Ud, Ud, Ud, Ud]) _
  refine q_is rfl rfl (does_fieldAddr (ev rfl) fa26_0) (by dsimp only [List.set]; try rfl) ?_
  refine q_is rfl rfl (does_load (u := (Fl r1)) (ev rfl) Try.isAgg24 (Cells.at (Blk.cells ((((((((hB16.ext E24).ext E32).ext E41).ext E46).ext E51).ext E56).ext E61).ext E66)) 0 rfl)) (by dsimp only [List.set]; try rfl) ?_
  refine q_is rfl rfl (does_fieldAddr (ev rfl) fa26_1) (by dsimp only [List.set]; try rfl) ?_
  refine q_is rfl rfl (does_load (u := (Fl r9)) (ev rfl) Try.isAgg24 (Cells.at (Blk.cells (((((((hB23.ext E32).ext E41).ext E46).ext E51).ext E56).ext E61).ext E66)) 1 rfl)) (by dsimp only [List.set]; try rfl) ?_
  refine seqd rfl rfl (does_float (.inr (.inr (.inl rfl))) (ev rfl) (ev rfl)) ?_; rintro _ w72 ⟨r69, rfl, h70, E71⟩
  have X73 := Ext.gr X68 E71
  show wpList _ _ _ _ (fr [(.agg #[(Fl r1), (Fl r3), (Fl r5)]), (.agg #[(Fl r7), (Fl r9), (Fl r11)]), (Pt b14 0), (Pt b21 0), (Pt b29 0), (Pt b14 1), (Fl r3), (Pt b21 2), (Fl r11), (Fl r39), (Pt b14 2), (Fl r5), (Pt b21 1), (Fl r9), (Fl r44), (Fl r49), (Pt b14 2), (Fl r5), (Pt b21 0), (Fl r7), (Fl r54), (Pt b14 0), (Fl r1), (Pt b21 2), (Fl r11), (Fl r59), (Fl r64), (Pt b14 0), (Fl r1), (Pt b21 1), (Fl r9), (Fl r69), Ud, Ud, Ud, Ud, Ud, Ud, Ud]) _
  refine q_is rfl rfl (does_fieldAddr (ev rfl) fa26_1) (by dsimp only [List.set]; try rfl) ?_
  refine q_is rfl rfl (does_load (u := (Fl r3)) (ev rfl) Try.isAgg24 (Cells.at (Blk.cells (((((((((hB16.ext E24).ext E32).ext E41).ext E46).ext E51).ext E56).ext E61).ext E66).ext E71)) 1 rfl)) (by dsimp only [List.set]; try rfl) ?_
  refine q_is rfl rfl (does_fieldAddr (ev rfl) fa26_0) (by dsimp only [List.set]; try rfl) ?_
  refine q_is rfl rfl (does_load (u := (Fl r7)) (ev rfl) Try.isAgg24 (Cells.at (Blk.cells ((((((((hB23.ext E32).ext E41).ext E46).ext E51).ext E56).ext E61).ext E66).ext E71)) 0 rfl)) (by dsimp only [List.set]; try rfl) ?_
  refine seqd rfl rfl (does_float (.inr (.inr (.inl rfl))) (ev rfl) (ev rfl)) ?_; rintro _ w77 ⟨r74, rfl, h75, E76⟩
  have X78 := Ext.gr X73 E76
  show wpList _ _ _ _ (fr [(.agg #[(Fl r1), (Fl r3), (Fl r5)]), (.agg #[(Fl r7), (Fl r9), (Fl r11)]), (Pt b14 0), (Pt b21 0), (Pt b29 0), (Pt b14 1), (Fl r3), (Pt b21 2), (Fl r11), (Fl r39), (Pt b14 2), (Fl r5), (Pt b21 1), (Fl r9), (Fl r44), (Fl r49), (Pt b14 2), (Fl r5), (Pt b21 0), (Fl r7), (Fl r54), (Pt b14 0), (Fl r1), (Pt b21 2), (Fl r11), (Fl r59), (Fl r64), (Pt b14 0), (Fl r1), (Pt b21 1), (Fl r9), (Fl r69), (Pt b14 1), (Fl r3), (Pt b21 0), (Fl r7), (Fl r74), Ud, Ud]) _
  refine seqd rfl rfl (does_float (.inr (.inl rfl)) (ev rfl) (ev rfl)) ?_; rintro _ w82 ⟨r79, rfl, h80, E81⟩
  have X83 := Ext.gr X78 E81
  show wpList _ _ _ _ (fr [(.agg #[(Fl r1), (Fl r3), (Fl r5)]), (.agg #[(Fl r7), (Fl r9), (Fl r11)]), (Pt b14 0), (Pt b21 0), (Pt b29 0), (Pt b14 1), (Fl r3), (Pt b21 2), (Fl r11), (Fl r39), (Pt b14 2), (Fl r5), (Pt b21 1), (Fl r9), (Fl r44), (Fl r49), (Pt b14 2), (Fl r5), (Pt b21 0), (Fl r7), (Fl r54), (Pt b14 0), (Fl r1), (Pt b21 2), (Fl r11), (Fl r59), (Fl r64), (Pt b14 0), (Fl r1), (Pt b21 1), (Fl r9), (Fl r69), (Pt b14 1), (Fl r3), (Pt b21 0), (Fl r7), (Fl r74), (Fl r79), Ud]) _
  refine q_is rfl rfl (does_build (parts' := [(0, (Fl r49)), (1, (Fl r64)), (2, (Fl r79))]) (cells := #[(Fl r49), (Fl r64), (Fl r79)]) (evp rfl) (by kernel_rfl)) (by dsimp only [List.set]; try rfl) ?_
  refine seqn rfl rfl (does_store (n := 3) (cs := [(Fl 0), (Fl 0), (Fl 0)]) (u := (.agg #[(Fl r49), (Fl r64), (Fl r79)])) (ev rfl) (ev rfl) Try.sizeOf26 rfl (((((((((hB31.ext E41).ext E46).ext E51).ext E56).ext E61).ext E66).ext E71).ext E76).ext E81) (Nat.le_of_ble_eq_true rfl) rfl) ?_; rintro _ w86 ⟨rfl, W84, hB85⟩
  change Blk _ _ [(Fl r49), (Fl r64), (Fl r79)] at hB85
  have X87 := Below.wr X83 W84 g36
  refine wpList_nil (hK38 _ _ ?_)
  refine wp_ret ?_
  refine ret_val (v := (.agg #[(Fl r49), (Fl r64), (Fl r79)])) (res_C rfl (slot rfl) (run_loadAgg (cs := [(Fl r49), (Fl r64), (Fl r79)]) Try.isAgg26 Try.sizeOf26 (Blk.cells hB85) rfl)) X87 ?_
  have x88 : cf .f32 r49 = (crossF A_a A_b).x := by first | with_reducible rfl | (simp only [crossF, h2, h4, h6, h8, h10, h12, h40, h45, h50, h55, h60, h65, h70, h75, h80]; done) | (simp [crossF, h2, h4, h6, h8, h10, h12, h40, h45, h50, h55, h60, h65, h70, h75, h80]; done) | rfl
  have x89 : cf .f32 r64 = (crossF A_a A_b).y := by first | with_reducible rfl | (simp only [crossF, h2, h4, h6, h8, h10, h12, h40, h45, h50, h55, h60, h65, h70, h75, h80]; done) | (simp [crossF, h2, h4, h6, h8, h10, h12, h40, h45, h50, h55, h60, h65, h70, h75, h80]; done) | rfl
  have x90 : cf .f32 r79 = (crossF A_a A_b).z := by first | with_reducible rfl | (simp only [crossF, h2, h4, h6, h8, h10, h12, h40, h45, h50, h55, h60, h65, h70, h75, h80]; done) | (simp [crossF, h2, h4, h6, h8, h10, h12, h40, h45, h50, h55, h60, h65, h70, h75, h80]; done) | rfl
  exact ⟨[(Fl r49), (Fl r64), (Fl r79)], rfl, ⟨r49, r64, r79, rfl, x88, x89, x90⟩⟩

/- spec.l09Axes -/
theorem c_spec_l09Axes (c_b : Nat) (c_o : Nat) (c : List Value) (A_c : CamT) (w : World) (hc_c : Cells w c_b c_o c) (hv_c : RCamT w A_c c) : Gives Try.prog 69 #[(Pt c_b c_o)] w (fun v w' => ∃ cs_1 : List Value, ∃ cs_2 : List Value, ∃ cs_3 : List Value, v = (.tuple #[(.agg cs_1.toArray), (.agg cs_2.toArray), (.agg cs_3.toArray)]) ∧ RV3 w (rgtC A_c) cs_1 ∧ RV3 w (upC A_c) cs_2 ∧ RV3 w (fwdC A_c) cs_3) := by
  obtain ⟨r1, r3, r5, r7, r9, r11, r13, rfl, h2, h4, h6, h8, h10, h12, h14⟩ := hv_c
  refine enter [(Pt c_b c_o), Ud, Ud, Ud, Ud, Ud, Ud, Ud, Ud, Ud, Ud, Ud, Ud, Ud, Ud, Ud, Ud, Ud, Ud, Ud, Ud, Ud, Ud, Ud, Ud, Ud] Try.func69 rfl Try.ntmps69 rfl ?_
  refine wp_seq_k fun K15 hK15 => ?_
  refine wp_region_lit ?_
  refine seqd rfl rfl (does_alloc z26) ?_; rintro _ w20 ⟨b16, rfl, hb17, hB18, E19⟩
  have n21 : c_b < b16 := Nat.lt_of_lt_of_le (cell_lt (Cells.at hc_c 0 rfl)) hb17
  have g22 : w.heap.size ≤ b16 := Nat.le_trans (Below.size (Ext.refl w)) hb17
  change Blk _ _ [(Fl 0), (Fl 0), (Fl 0)] at hB18
  have X23 := Ext.gr (Ext.refl w) E19
  show wpList _ _ _ _ (fr [(Pt c_b c_o), Ud, (Pt b16 0), Ud, Ud, Ud, Ud, Ud, Ud, Ud, Ud, Ud, Ud, Ud, Ud, Ud, Ud, Ud, Ud, Ud, Ud, Ud, Ud, Ud, Ud, Ud]) _
  refine seqd rfl rfl (does_alloc z26) ?_; rintro _ w28 ⟨b24, rfl, hb25, hB26, E27⟩
  have n29 : c_b < b24 := Nat.lt_of_lt_of_le (cell_lt (Cells.at (hc_c.ext X23) 0 rfl)) hb25
  have n30 : b16 < b24 := Nat.lt_of_lt_of_le (Blk.lt hB18) hb25
  have g31 : w.heap.size ≤ b24 := Nat.le_trans (Below.size X23) hb25
  change Blk _ _ [(Fl 0), (Fl 0), (Fl 0)] at hB26
  have X32 := Ext.gr X23 E27
  show wpList _ _ _ _ (fr [(Pt c_b c_o), Ud, (Pt b16 0), (Pt b24 0), Ud, Ud, Ud, Ud, Ud, Ud, Ud, Ud, Ud, Ud, Ud, Ud, Ud, Ud, Ud, Ud, Ud, Ud, Ud, Ud, Ud, Ud]) _
  refine seqd rfl rfl (does_alloc z26) ?_; rintro _ w37 ⟨b33, rfl, hb34, hB35, E36⟩
  have n38 : c_b < b33 := Nat.lt_of_lt_of_le (cell_lt (Cells.at (hc_c.ext X32) 0 rfl)) hb34
  have n39 : b16 < b33 := Nat.lt_of_lt_of_le (Blk.lt (hB18.ext E27)) hb34
  have n40 : b24 < b33 := Nat.lt_of_lt_of_le (Blk.lt hB26) hb34
  have g41 : w.heap.size ≤ b33 := Nat.le_trans (Below.size X32) hb34
  change Blk _ _ [(Fl 0), (Fl 0), (Fl 0)] at hB35
  have X42 := Ext.gr X32 E36
  show wpList _ _ _ _ (fr [(Pt c_b c_o), Ud, (Pt b16 0), (Pt b24 0), (Pt b33 0), Ud, Ud, Ud, Ud, Ud, Ud, Ud, Ud, Ud, Ud, Ud, Ud, Ud, Ud, Ud, Ud, Ud, Ud, Ud, Ud, Ud]) _
  refine wpList_nil (hK15 _ _ ?_)
  refine wp_seq_k fun K43 hK43 => ?_
  refine region_draw (
    [Fact.pure [] (fun v => v = (Pt c_b c_o)),
    Fact.pure [7] (fun v => v = (Pt c_b c_o)),
    Fact.pure [8] (fun v => v = (Pt c_b (c_o + 3))),
    Fact.pure [9] (fun v => v = (.agg #[(Fl r7), (Fl r9), (Fl r11)])),
    Fact.pure [] (fun v => v = (Pt c_b c_o)),
    Fact.pure [11] (fun v => v = (Pt c_b c_o)),
    Fact.pure [12] (fun v => v = (Pt c_b c_o)),
    Fact.pure [13] (fun v => v = (.agg #[(Fl r1), (Fl r3), (Fl r5)])),
    Fact.pure [10, 14] (fun v => ∃ cs_1 : List Value, v = (.agg cs_1.toArray) ∧ RV3 w (vsub A_c.to A_c.frm) cs_1),
    Fact.pure [15] (fun v => ∃ cs_1 : List Value, v = (.agg cs_1.toArray) ∧ RV3 w (unitF (vsub A_c.to A_c.frm)) cs_1),
    Fact.mem [] (fun v w' => ∃ b : Nat, v = .pointer (some ⟨b, 0, none⟩) ∧ w37.heap.size ≤ b ∧ Blk w' b [(Fl 0), (Fl 0), (Fl 0)]) (by rintro v w1 w2 hx ⟨b, rfl, hb, hB⟩; exact ⟨b, rfl, hb, (hB.ext hx)⟩)]) mixed (by kernel_rfl) (by intro _ _ d _ _ h; cases d <;> exact h) ?_
  obtain ⟨w44, hw46⟩ : ∃ w', w' = World.drew w37 := ⟨_, rfl⟩; rw [← hw46]; have E45 : Ext w37 w44 := by rw [hw46]; exact Ext.draw _
  clear hw46
  have X47 := Ext.gr X42 E45
  refine RW_d _ rfl (fun v => by dsimp only [List.set]; try rfl) (fun u hu hF => ?_) (fun v48 => ?_)
  · clear hF
    refine doesG_un rfl ?_
    refine (does_move (u := (Pt c_b c_o)) (ev rfl)).mono ?_; rintro _ _ ⟨rfl, rfl⟩
    exact ⟨rfl, Ext.refl _⟩
  refine RW_d _ rfl (fun v => by dsimp only [List.set]; try rfl) (fun u hu hF => ?_) (fun v49 => ?_)
  · have h7_ : v48 = (Pt c_b c_o) := hF.1
    clear hF
    refine doesG_un rfl ?_
    obtain rfl := h7_
    refine (does_nilCheck (ev rfl)).mono ?_; rintro _ _ ⟨rfl, rfl⟩
    exact ⟨rfl, Ext.refl _⟩
  refine RW_d _ rfl (fun v => by dsimp only [List.set]; try rfl) (fun u hu hF => ?_) (fun v50 => ?_)
  · have h8_ : v49 = (Pt c_b c_o) := hF.1
    clear hF
    refine doesG_un rfl ?_
    obtain rfl := h8_
    refine (does_fieldAddr (ev rfl) fa48_1).mono ?_; rintro _ _ ⟨rfl, rfl⟩
    exact ⟨rfl, Ext.refl _⟩
  refine RW_d _ rfl (fun v => by dsimp only [List.set]; try rfl) (fun u hu hF => ?_) (fun v51 => ?_)
  · have h9_ : v50 = (Pt c_b (c_o + 3)) := hF.1
    clear hF
    refine doesG_un rfl ?_
    obtain rfl := h9_
    refine (does_loadAgg (cs := [(Fl r7), (Fl r9), (Fl r11)]) (ev rfl) Try.isAgg26 Try.sizeOf26 (Cells.sub ((hc_c.ext (Ext.gr X42 E45)).ext hu) 3 3) rfl).mono ?_; rintro _ _ ⟨rfl, rfl⟩
    exact ⟨rfl, Ext.refl _⟩
  refine RW_d _ rfl (fun v => by dsimp only [List.set]; try rfl) (fun u hu hF => ?_) (fun v52 => ?_)
  · clear hF
    refine doesG_un rfl ?_
    refine (does_move (u := (Pt c_b c_o)) (ev rfl)).mono ?_; rintro _ _ ⟨rfl, rfl⟩
    exact ⟨rfl, Ext.refl _⟩
  refine RW_d _ rfl (fun v => by dsimp only [List.set]; try rfl) (fun u hu hF => ?_) (fun v53 => ?_)
  · have h11_ : v52 = (Pt c_b c_o) := hF.1
    clear hF
    refine doesG_un rfl ?_
    obtain rfl := h11_
    refine (does_nilCheck (ev rfl)).mono ?_; rintro _ _ ⟨rfl, rfl⟩
    exact ⟨rfl, Ext.refl _⟩
  refine RW_d _ rfl (fun v => by dsimp only [List.set]; try rfl) (fun u hu hF => ?_) (fun v54 => ?_)
  · have h12_ : v53 = (Pt c_b c_o) := hF.1
    clear hF
    refine doesG_un rfl ?_
    obtain rfl := h12_
    refine (does_fieldAddr (ev rfl) fa48_0).mono ?_; rintro _ _ ⟨rfl, rfl⟩
    exact ⟨rfl, Ext.refl _⟩
  refine RW_d _ rfl (fun v => by dsimp only [List.set]; try rfl) (fun u hu hF => ?_) (fun v55 => ?_)
  · have h13_ : v54 = (Pt c_b c_o) := hF.1
    clear hF
    refine doesG_un rfl ?_
    obtain rfl := h13_
    refine (does_loadAgg (cs := [(Fl r1), (Fl r3), (Fl r5)]) (ev rfl) Try.isAgg26 Try.sizeOf26 (Cells.sub ((hc_c.ext (Ext.gr X42 E45)).ext hu) 0 3) rfl).mono ?_; rintro _ _ ⟨rfl, rfl⟩
    exact ⟨rfl, Ext.refl _⟩
  refine RW_d _ rfl (fun v => by dsimp only [List.set]; try rfl) (fun u hu hF => ?_) (fun v56 => ?_)
  · have h10_ : v51 = (.agg #[(Fl r7), (Fl r9), (Fl r11)]) := hF.1
    have h14_ : v55 = (.agg #[(Fl r1), (Fl r3), (Fl r5)]) := hF.2.1
    clear hF
    refine doesG_un rfl ?_
    obtain rfl := h10_
    obtain rfl := h14_
    refine (does_call (args := #[(.agg #[(Fl r7), (Fl r9), (Fl r11)]), (.agg #[(Fl r1), (Fl r3), (Fl r5)])]) cal85 (evs rfl) (c_spec_l01Less [(Fl r7), (Fl r9), (Fl r11)] A_c.to [(Fl r1), (Fl r3), (Fl r5)] A_c.frm _ ⟨r7, r9, r11, rfl, h8, h10, h12⟩ ⟨r1, r3, r5, rfl, h2, h4, h6⟩)).mono ?_; rintro v u' ⟨hx, ⟨csn1, hv, k0⟩⟩
    exact ⟨⟨csn1, hv, k0⟩, hx⟩
  refine RW_d _ rfl (fun v => by dsimp only [List.set]; try rfl) (fun u hu hF => ?_) (fun v57 => ?_)
  · have h15_ : ∃ cs_1 : List Value, v56 = (.agg cs_1.toArray) ∧ RV3 w (vsub A_c.to A_c.frm) cs_1 := hF.1
    clear hF
    refine doesG_un rfl ?_
    obtain ⟨_, rfl, ⟨r15_1, r15_3, r15_5, rfl, h15_2, h15_4, h15_6⟩⟩ := h15_
    refine (does_call (args := #[(.agg #[(Fl r15_1), (Fl r15_3), (Fl r15_5)])]) cal84 (evs rfl) (c_spec_l03Unit [(Fl r15_1), (Fl r15_3), (Fl r15_5)] (vsub A_c.to A_c.frm) _ ⟨r15_1, r15_3, r15_5, rfl, (by assumption), (by assumption), (by assumption)⟩)).mono ?_; rintro v u' ⟨hx, ⟨csn1, hv, k0⟩⟩
    exact ⟨⟨csn1, hv.trans (by simp only [h15_2, h15_4, h15_6]), (by first | exact k0 | simpa only [h15_2, h15_4, h15_6] using RV3.any (w := w) k0)⟩, hx⟩
  refine RW_d _ rfl (fun v => by dsimp only [List.set]; try rfl) (fun u hu hF => ?_) (fun v58 => ?_)
  · clear hF
    refine doesG_un rfl ?_
    refine (does_alloc z26).mono ?_; rintro _ _ ⟨b, rfl, hb, hB, hx⟩
    exact ⟨⟨b, rfl, Nat.le_trans (Nat.le_trans (Below.size E45) (Below.size hu)) hb, hB⟩, hx⟩
  refine RW_fin ?_; intro w59 E60 hP61
  obtain ⟨⟨⟨⟨⟨⟨⟨⟨⟨⟨⟨-, -⟩, -⟩, -⟩, -⟩, -⟩, -⟩, -⟩, -⟩, -⟩, q62⟩, q63⟩ := hP61
  have X64 := Ext.gr X47 E60
  have q62 : ∃ cs_1 : List Value, v57 = (.agg cs_1.toArray) ∧ RV3 w (unitF (vsub A_c.to A_c.frm)) cs_1 := q62
  obtain ⟨_, rfl, ⟨r65, r67, r69, rfl, h66, h68, h70⟩⟩ := q62
  have q63 : ∃ b : Nat, v58 = .pointer (some ⟨b, 0, none⟩) ∧ w37.heap.size ≤ b ∧ Blk w59 b [(Fl 0), (Fl 0), (Fl 0)] := q63
  obtain ⟨b71, rfl, hb72, hB73⟩ := q63
  have n74 : c_b < b71 := Nat.lt_of_lt_of_le (cell_lt (Cells.at (hc_c.ext X42) 0 rfl)) hb72
  have n75 : b16 < b71 := Nat.lt_of_lt_of_le (Blk.lt ((hB18.ext E27).ext E36)) hb72
  have n76 : b24 < b71 := Nat.lt_of_lt_of_le (Blk.lt (hB26.ext E36)) hb72
  have n77 : b33 < b71 := Nat.lt_of_lt_of_le (Blk.lt hB35) hb72
  have g78 : w.heap.size ≤ b71 := Nat.le_trans (Below.size X42) hb72
  show wpList _ _ _ _ (fr [(Pt c_b c_o), Ud, (Pt b16 0), (Pt b24 0), (Pt b33 0), (Pt b71 0), Ud, v48, v49, v50, v51, v52, v53, v54, v55, v56, (.agg #[(Fl r65), (Fl r67), (Fl r69)]), Ud, Ud, Ud, Ud, Ud, Ud, Ud, Ud, Ud]) _
  refine seqn rfl rfl (does_store (n := 3) (cs := [(Fl 0), (Fl 0), (Fl 0)]) (u := (.agg #[(Fl r65), (Fl r67), (Fl r69)])) (ev rfl) (ev rfl) Try.sizeOf26 rfl hB73 (Nat.le_of_ble_eq_true rfl) rfl) ?_; rintro _ w81 ⟨rfl, W79, hB80⟩
  change Blk _ _ [(Fl r65), (Fl r67), (Fl r69)] at hB80
  have X82 := Below.wr X64 W79 g78
  refine wpList_nil (hK43 _ _ ?_)
  refine wp_seq_k fun K83 hK83 => ?_
  refine wp_region_lit ?_
  refine q_is rfl rfl (does_loadAgg (cs := [(Fl r65), (Fl r67), (Fl r69)]) (ev rfl) Try.isAgg26 Try.sizeOf26 (Blk.cells hB80) rfl) (by dsimp only [List.set]; try rfl) ?_
  refine q_is rfl rfl (does_build (parts' := [(1, (Fl 1065353216))]) (cells := #[(Fl 0), (Fl 1065353216), (Fl 0)]) (evp rfl) (by kernel_rfl)) (by dsimp only [List.set]; try rfl) ?_
  refine seqd rfl rfl (does_call (args := #[(.agg #[(Fl r65), (Fl r67), (Fl r69)]), (.agg #[(Fl 0), (Fl 1065353216), (Fl 0)])]) cal105 (evs rfl) (c_spec_l01Cross [(Fl r65), (Fl r67), (Fl r69)] (unitF (vsub A_c.to A_c.frm)) [(Fl 0), (Fl 1065353216), (Fl 0)] (V3.mk (cf .f32 0) (cf .f32 1065353216) (cf .f32 0)) _ ⟨r65, r67, r69, rfl, h66, h68, h70⟩ ⟨0, 1065353216, 0, rfl, rfl, rfl, rfl⟩)) ?_; rintro _ w85 ⟨E84, ⟨_, rfl, ⟨r86, r88, r90, rfl, h87, h89, h91⟩⟩⟩
  have X92 := Ext.gr X82 E84
  show wpList _ _ _ _ (fr [(Pt c_b c_o), Ud, (Pt b16 0), (Pt b24 0), (Pt b33 0), (Pt b71 0), Ud, v48, v49, v50, v51, v52, v53, v54, v55, v56, (.agg #[(Fl r65), (Fl r67), (Fl r69)]), (.agg #[(Fl r65), (Fl r67), (Fl r69)]), (.agg #[(Fl 0), (Fl 1065353216), (Fl 0)]), (.agg #[(Fl r86), (Fl r88), (Fl r90)]), Ud, Ud, Ud, Ud, Ud, Ud]) _
  refine seqd rfl rfl (does_call (args := #[(.agg #[(Fl r86), (Fl r88), (Fl r90)])]) cal84 (evs rfl) (c_spec_l03Unit [(Fl r86), (Fl r88), (Fl r90)] (crossF (unitF (vsub A_c.to A_c.frm)) (V3.mk (cf .f32 0) (cf .f32 1065353216) (cf .f32 0))) _ ⟨r86, r88, r90, rfl, h87, h89, h91⟩)) ?_; rintro _ w94 ⟨E93, ⟨_, rfl, ⟨r95, r97, r99, rfl, h96, h98, h100⟩⟩⟩
  have X101 := Ext.gr X92 E93
  show wpList _ _ _ _ (fr [(Pt c_b c_o), Ud, (Pt b16 0), (Pt b24 0), (Pt b33 0), (Pt b71 0), Ud, v48, v49, v50, v51, v52, v53, v54, v55, v56, (.agg #[(Fl r65), (Fl r67), (Fl r69)]), (.agg #[(Fl r65), (Fl r67), (Fl r69)]), (.agg #[(Fl 0), (Fl 1065353216), (Fl 0)]), (.agg #[(Fl r86), (Fl r88), (Fl r90)]), (.agg #[(Fl r95), (Fl r97), (Fl r99)]), Ud, Ud, Ud, Ud, Ud]) _
  refine seqd rfl rfl (does_alloc z26) ?_; rintro _ w106 ⟨b102, rfl, hb103, hB104, E105⟩
  have n107 : c_b < b102 := Nat.lt_of_lt_of_le (cell_lt (Cells.at (hc_c.ext X101) 0 rfl)) hb103
  have n108 : b16 < b102 := Nat.lt_of_lt_of_le (Blk.lt (((((((hB18.ext E27).ext E36).ext E45).ext E60).wr W79 (Nat.ne_of_lt n75)).ext E84).ext E93)) hb103
  have n109 : b24 < b102 := Nat.lt_of_lt_of_le (Blk.lt ((((((hB26.ext E36).ext E45).ext E60).wr W79 (Nat.ne_of_lt n76)).ext E84).ext E93)) hb103
  have n110 : b33 < b102 := Nat.lt_of_lt_of_le (Blk.lt (((((hB35.ext E45).ext E60).wr W79 (Nat.ne_of_lt n77)).ext E84).ext E93)) hb103
  have n111 : b71 < b102 := Nat.lt_of_lt_of_le (Blk.lt ((hB80.ext E84).ext E93)) hb103
  have g112 : w.heap.size ≤ b102 := Nat.le_trans (Below.size X101) hb103
  change Blk _ _ [(Fl 0), (Fl 0), (Fl 0)] at hB104
  have X113 := Ext.gr X101 E105
  show wpList _ _ _ _ (fr [(Pt c_b c_o), Ud, (Pt b16 0), (Pt b24 0), (Pt b33 0), (Pt b71 0), (Pt b102 0), v48, v49, v50, v51, v52, v53, v54, v55, v56, (.agg #[(Fl r65), (Fl r67), (Fl r69)]), (.agg #[(Fl r65), (Fl r67), (Fl r69)]), (.agg #[(Fl 0), (Fl 1065353216), (Fl 0)]), (.agg #[(Fl r86), (Fl r88), (Fl r90)]), (.agg #[(Fl r95), (Fl r97), (Fl r99)]), Ud, Ud, Ud, Ud, Ud]) _
  refine seqn rfl rfl (does_store (n := 3) (cs := [(Fl 0), (Fl 0), (Fl 0)]) (u := (.agg #[(Fl r95), (Fl r97), (Fl r99)])) (ev rfl) (ev rfl) Try.sizeOf26 rfl hB104 (Nat.le_of_ble_eq_true rfl) rfl) ?_; rintro _ w116 ⟨rfl, W114, hB115⟩
  change Blk _ _ [(Fl r95), (Fl r97), (Fl r99)] at hB115
  have X117 := Below.wr X113 W114 g112
  refine wpList_nil (hK83 _ _ ?_)
  refine wp_seq_k fun K118 hK118 => ?_
  have n122 : b16 < w116.heap.size := Blk.lt (((((((((hB18.ext E27).ext E36).ext E45).ext E60).wr W79 (Nat.ne_of_lt n75)).ext E84).ext E93).ext E105).wr W114 (Nat.ne_of_lt n108))
  have n123 : b24 < w116.heap.size := Blk.lt ((((((((hB26.ext E36).ext E45).ext E60).wr W79 (Nat.ne_of_lt n76)).ext E84).ext E93).ext E105).wr W114 (Nat.ne_of_lt n109))
  refine region_any2 [b16, b24] [0, 0, 0, 6, 0, 15, 47, 127] [0, 1] (
    [FactW.pure [] [] [0, 1] true (fun v => v = (.agg #[(Fl r95), (Fl r97), (Fl r99)])),
      FactW.pure [] [] [0, 1] true (fun v => v = (.agg #[(Fl r95), (Fl r97), (Fl r99)])),
      FactW.pure [] [] [0, 1] true (fun v => v = (.agg #[(Fl r65), (Fl r67), (Fl r69)])),
      FactW.pure [1, 2] [] [0, 1] true (fun v => ∃ cs_1 : List Value, v = (.agg cs_1.toArray) ∧ RV3 w (crossF (unitF (crossF (unitF (vsub A_c.to A_c.frm)) (V3.mk (cf .f32 0) (cf .f32 1065353216) (cf .f32 0)))) (unitF (vsub A_c.to A_c.frm))) cs_1),
      FactW.pure [] [0, 1] [0, 1] true (fun v => v = (.agg #[(Fl r65), (Fl r67), (Fl r69)])),
      FactW.mem [0] [] [0] [1] true (fun v w' => v = undef ∧ Blk w' b16 [(Fl r95), (Fl r97), (Fl r99)]) (by rintro v w1 w2 hx ⟨rfl, h⟩; exact ⟨rfl, h.kl hx (ninS (Nat.ne_of_lt n30) nin0)⟩),
      FactW.mem [5, 3] [0] [1] [0] true (fun v w' => v = undef ∧ ∃ r_1 : Nat, ∃ r_2 : Nat, ∃ r_3 : Nat, Blk w' b24 [(Fl r_1), (Fl r_2), (Fl r_3)] ∧ cf .f32 r_1 = (crossF (unitF (crossF (unitF (vsub A_c.to A_c.frm)) (V3.mk (cf .f32 0) (cf .f32 1065353216) (cf .f32 0)))) (unitF (vsub A_c.to A_c.frm))).x ∧ cf .f32 r_2 = (crossF (unitF (crossF (unitF (vsub A_c.to A_c.frm)) (V3.mk (cf .f32 0) (cf .f32 1065353216) (cf .f32 0)))) (unitF (vsub A_c.to A_c.frm))).y ∧ cf .f32 r_3 = (crossF (unitF (crossF (unitF (vsub A_c.to A_c.frm)) (V3.mk (cf .f32 0) (cf .f32 1065353216) (cf .f32 0)))) (unitF (vsub A_c.to A_c.frm))).z) (by rintro v w1 w2 hx ⟨rfl, z0, z1, z2, h, k0, k1, k2⟩; exact ⟨rfl, z0, z1, z2, h.kl hx (ninS (Nat.ne_of_gt n30) nin0), k0, k1, k2⟩)]) mixed (by kernel_rfl) ?_
  obtain ⟨w119, hw121⟩ : ∃ w', w' = World.drew w116 := ⟨_, rfl⟩; rw [← hw121]; have E120 : Ext w116 w119 := by rw [hw121]; exact Ext.draw _
  clear hw121
  have X124 := Ext.gr X117 E120
  refine RW2_d _ rfl (fun v => by dsimp only [List.set]; try rfl) (fun u hu hF => ?_) (fun v125 => ?_)
  · replace hu : KpL [] _ _ := hu
    clear hF
    refine doesG_un rfl ?_
    refine (does_loadAgg (cs := [(Fl r95), (Fl r97), (Fl r99)]) (ev rfl) Try.isAgg26 Try.sizeOf26 (Blk.cells ((hB115.ext E120).ext (KpL.toExt hu))) rfl).mono ?_; rintro _ _ ⟨rfl, rfl⟩
    exact ⟨rfl, KpL.refl _ _⟩
  refine RW2_d _ rfl (fun v => by dsimp only [List.set]; try rfl) (fun u hu hF => ?_) (fun v126 => ?_)
  · replace hu : KpL [] _ _ := hu
    clear hF
    refine doesG_un rfl ?_
    refine (does_loadAgg (cs := [(Fl r95), (Fl r97), (Fl r99)]) (ev rfl) Try.isAgg26 Try.sizeOf26 (Blk.cells ((hB115.ext E120).ext (KpL.toExt hu))) rfl).mono ?_; rintro _ _ ⟨rfl, rfl⟩
    exact ⟨rfl, KpL.refl _ _⟩
  refine RW2_d _ rfl (fun v => by dsimp only [List.set]; try rfl) (fun u hu hF => ?_) (fun v127 => ?_)
  · replace hu : KpL [] _ _ := hu
    clear hF
    refine doesG_un rfl ?_
    refine (does_loadAgg (cs := [(Fl r65), (Fl r67), (Fl r69)]) (ev rfl) Try.isAgg26 Try.sizeOf26 (Blk.cells ((((((hB80.ext E84).ext E93).ext E105).wr W114 (Nat.ne_of_lt n111)).ext E120).ext (KpL.toExt hu))) rfl).mono ?_; rintro _ _ ⟨rfl, rfl⟩
    exact ⟨rfl, KpL.refl _ _⟩
  refine RW2_d _ rfl (fun v => by dsimp only [List.set]; try rfl) (fun u hu hF => ?_) (fun v128 => ?_)
  · replace hu : KpL [] _ _ := hu
    have h22_ : v126 = (.agg #[(Fl r95), (Fl r97), (Fl r99)]) := hF.1
    have h23_ : v127 = (.agg #[(Fl r65), (Fl r67), (Fl r69)]) := hF.2.1
    clear hF
    refine doesG_un rfl ?_
    obtain rfl := h22_
    obtain rfl := h23_
    refine (does_call (args := #[(.agg #[(Fl r95), (Fl r97), (Fl r99)]), (.agg #[(Fl r65), (Fl r67), (Fl r69)])]) cal105 (evs rfl) (c_spec_l01Cross [(Fl r95), (Fl r97), (Fl r99)] (unitF (crossF (unitF (vsub A_c.to A_c.frm)) (V3.mk (cf .f32 0) (cf .f32 1065353216) (cf .f32 0)))) [(Fl r65), (Fl r67), (Fl r69)] (unitF (vsub A_c.to A_c.frm)) _ ⟨r95, r97, r99, rfl, h96, h98, h100⟩ ⟨r65, r67, r69, rfl, h66, h68, h70⟩)).mono ?_; rintro v u' ⟨hx, ⟨csn1, hv, k0⟩⟩
    exact ⟨⟨csn1, hv, k0⟩, (KpL.of_ext hx)⟩
  refine RW2_d _ rfl (fun v => by dsimp only [List.set]; try rfl) (fun u hu hF => ?_) (fun v129 => ?_)
  · replace hu : KpL [b16, b24] _ _ := hu
    clear hF
    refine doesG_un rfl ?_
    refine (does_loadAgg (cs := [(Fl r65), (Fl r67), (Fl r69)]) (ev rfl) Try.isAgg26 Try.sizeOf26 (Blk.cells ((((((hB80.ext E84).ext E93).ext E105).wr W114 (Nat.ne_of_lt n111)).ext E120).kl hu (ninS (Nat.ne_of_gt n75) (ninS (Nat.ne_of_gt n76) nin0)))) rfl).mono ?_; rintro _ _ ⟨rfl, rfl⟩
    exact ⟨rfl, KpL.refl _ _⟩
  refine RW2_n rfl (fun u hu hF => ?_) (fun v130 => ?_)
  · replace hu : KpL [] _ _ := hu
    have h21_ : v125 = (.agg #[(Fl r95), (Fl r97), (Fl r99)]) := hF.1
    clear hF
    refine doesG_un rfl ?_
    obtain rfl := h21_
    refine (does_store (n := 3) (cs := [(Fl 0), (Fl 0), (Fl 0)]) (u := (.agg #[(Fl r95), (Fl r97), (Fl r99)])) (ev rfl) (ev rfl) Try.sizeOf26 rfl (((((((((((hB18.ext E27).ext E36).ext E45).ext E60).wr W79 (Nat.ne_of_lt n75)).ext E84).ext E93).ext E105).wr W114 (Nat.ne_of_lt n108)).ext E120).ext (KpL.toExt hu)) (Nat.le_of_ble_eq_true rfl) rfl).mono ?_; rintro _ _ ⟨rfl, hW, hB⟩
    exact ⟨⟨rfl, hB⟩, KpL.of_wr hW⟩
  refine RW2_n rfl (fun u hu hF => ?_) (fun v131 => ?_)
  · replace hu : KpL [b16] _ _ := hu
    obtain ⟨_, hs5_⟩ := hF.1
    have h24_ : ∃ cs_1 : List Value, v128 = (.agg cs_1.toArray) ∧ RV3 w (crossF (unitF (crossF (unitF (vsub A_c.to A_c.frm)) (V3.mk (cf .f32 0) (cf .f32 1065353216) (cf .f32 0)))) (unitF (vsub A_c.to A_c.frm))) cs_1 := hF.2.1
    clear hF
    refine doesG_un rfl ?_
    obtain ⟨_, rfl, ⟨r24_1, r24_3, r24_5, rfl, h24_2, h24_4, h24_6⟩⟩ := h24_
    refine (does_store (n := 3) (cs := [(Fl 0), (Fl 0), (Fl 0)]) (u := (.agg #[(Fl r24_1), (Fl r24_3), (Fl r24_5)])) (ev rfl) (ev rfl) Try.sizeOf26 rfl ((((((((((hB26.ext E36).ext E45).ext E60).wr W79 (Nat.ne_of_lt n76)).ext E84).ext E93).ext E105).wr W114 (Nat.ne_of_lt n109)).ext E120).kl hu (ninS (Nat.ne_of_gt n30) nin0)) (Nat.le_of_ble_eq_true rfl) rfl).mono ?_; rintro _ _ ⟨rfl, hW, hB⟩
    exact ⟨⟨rfl, r24_1, r24_3, r24_5, hB, (by simp only [h24_2, h24_4, h24_6]), (by simp only [h24_2, h24_4, h24_6]), (by simp only [h24_2, h24_4, h24_6])⟩, KpL.of_wr hW⟩
  refine RW2_fin ?_; intro w132 E133 hP134; replace E133 : KpL [b16, b24] _ _ := E133
  obtain ⟨⟨⟨⟨⟨⟨⟨-, -⟩, -⟩, -⟩, -⟩, q135⟩, q136⟩, q137⟩ := hP134
  have X138 := Below.kl X124 E133 (allS g22 (allS g31 all0)) (Nat.le_refl _)
  obtain ⟨_, hB139⟩ := q136 rfl
  change Blk _ _ [(Fl r95), (Fl r97), (Fl r99)] at hB139
  obtain ⟨_, r141, r142, r143, hB140, h144, h145, h146⟩ := q137 rfl
  change Blk _ _ [(Fl r141), (Fl r142), (Fl r143)] at hB140
  have q135 : v129 = (.agg #[(Fl r65), (Fl r67), (Fl r69)]) := q135 rfl
  obtain rfl := q135
  show wpList _ _ _ _ (fr [(Pt c_b c_o), Ud, (Pt b16 0), (Pt b24 0), (Pt b33 0), (Pt b71 0), (Pt b102 0), v48, v49, v50, v51, v52, v53, v54, v55, v56, (.agg #[(Fl r65), (Fl r67), (Fl r69)]), (.agg #[(Fl r65), (Fl r67), (Fl r69)]), (.agg #[(Fl 0), (Fl 1065353216), (Fl 0)]), (.agg #[(Fl r86), (Fl r88), (Fl r90)]), (.agg #[(Fl r95), (Fl r97), (Fl r99)]), v125, v126, v127, v128, (.agg #[(Fl r65), (Fl r67), (Fl r69)])]) _
  refine seqn rfl rfl (does_store (n := 3) (cs := [(Fl 0), (Fl 0), (Fl 0)]) (u := (.agg #[(Fl r65), (Fl r67), (Fl r69)])) (ev rfl) (ev rfl) Try.sizeOf26 rfl (((((((((hB35.ext E45).ext E60).wr W79 (Nat.ne_of_lt n77)).ext E84).ext E93).ext E105).wr W114 (Nat.ne_of_lt n110)).ext E120).kl E133 (ninS (Nat.ne_of_gt n39) (ninS (Nat.ne_of_gt n40) nin0))) (Nat.le_of_ble_eq_true rfl) rfl) ?_; rintro _ w149 ⟨rfl, W147, hB148⟩
  change Blk _ _ [(Fl r65), (Fl r67), (Fl r69)] at hB148
  have X150 := Below.wr X138 W147 g41
  refine wpList_nil (hK118 _ _ ?_)
  refine wp_ret ?_
  refine ret_val (v := (.tuple #[(.agg #[(Fl r95), (Fl r97), (Fl r99)]), (.agg #[(Fl r141), (Fl r142), (Fl r143)]), (.agg #[(Fl r65), (Fl r67), (Fl r69)])])) (res_CCC rfl (slot rfl) (run_loadAgg (cs := [(Fl r95), (Fl r97), (Fl r99)]) Try.isAgg26 Try.sizeOf26 (Blk.cells (hB139.wr W147 (Nat.ne_of_lt n39))) rfl) (slot rfl) (run_loadAgg (cs := [(Fl r141), (Fl r142), (Fl r143)]) Try.isAgg26 Try.sizeOf26 (Blk.cells (hB140.wr W147 (Nat.ne_of_lt n40))) rfl) (slot rfl) (run_loadAgg (cs := [(Fl r65), (Fl r67), (Fl r69)]) Try.isAgg26 Try.sizeOf26 (Blk.cells hB148) rfl)) X150 ?_
  have x151 : cf .f32 r95 = (rgtC A_c).x := by first | with_reducible rfl | (simp only [rgtC, upC, fwdC, h2, h4, h6, h8, h10, h12, h14, h66, h68, h70, h87, h89, h91, h96, h98, h100, h144, h145, h146]; done) | (simp [rgtC, upC, fwdC, h2, h4, h6, h8, h10, h12, h14, h66, h68, h70, h87, h89, h91, h96, h98, h100, h144, h145, h146]; done) | rfl
  have x152 : cf .f32 r97 = (rgtC A_c).y := by first | with_reducible rfl | (simp only [rgtC, upC, fwdC, h2, h4, h6, h8, h10, h12, h14, h66, h68, h70, h87, h89, h91, h96, h98, h100, h144, h145, h146]; done) | (simp [rgtC, upC, fwdC, h2, h4, h6, h8, h10, h12, h14, h66, h68, h70, h87, h89, h91, h96, h98, h100, h144, h145, h146]; done) | rfl
  have x153 : cf .f32 r99 = (rgtC A_c).z := by first | with_reducible rfl | (simp only [rgtC, upC, fwdC, h2, h4, h6, h8, h10, h12, h14, h66, h68, h70, h87, h89, h91, h96, h98, h100, h144, h145, h146]; done) | (simp [rgtC, upC, fwdC, h2, h4, h6, h8, h10, h12, h14, h66, h68, h70, h87, h89, h91, h96, h98, h100, h144, h145, h146]; done) | rfl
  have x154 : cf .f32 r141 = (upC A_c).x := by first | with_reducible rfl | (simp only [rgtC, upC, fwdC, h2, h4, h6, h8, h10, h12, h14, h66, h68, h70, h87, h89, h91, h96, h98, h100, h144, h145, h146]; done) | (simp [rgtC, upC, fwdC, h2, h4, h6, h8, h10, h12, h14, h66, h68, h70, h87, h89, h91, h96, h98, h100, h144, h145, h146]; done) | rfl
  have x155 : cf .f32 r142 = (upC A_c).y := by first | with_reducible rfl | (simp only [rgtC, upC, fwdC, h2, h4, h6, h8, h10, h12, h14, h66, h68, h70, h87, h89, h91, h96, h98, h100, h144, h145, h146]; done) | (simp [rgtC, upC, fwdC, h2, h4, h6, h8, h10, h12, h14, h66, h68, h70, h87, h89, h91, h96, h98, h100, h144, h145, h146]; done) | rfl
  have x156 : cf .f32 r143 = (upC A_c).z := by first | with_reducible rfl | (simp only [rgtC, upC, fwdC, h2, h4, h6, h8, h10, h12, h14, h66, h68, h70, h87, h89, h91, h96, h98, h100, h144, h145, h146]; done) | (simp [rgtC, upC, fwdC, h2, h4, h6, h8, h10, h12, h14, h66, h68, h70, h87, h89, h91, h96, h98, h100, h144, h145, h146]; done) | rfl
  have x157 : cf .f32 r65 = (fwdC A_c).x := by first | with_reducible rfl | (simp only [rgtC, upC, fwdC, h2, h4, h6, h8, h10, h12, h14, h66, h68, h70, h87, h89, h91, h96, h98, h100, h144, h145, h146]; done) | (simp [rgtC, upC, fwdC, h2, h4, h6, h8, h10, h12, h14, h66, h68, h70, h87, h89, h91, h96, h98, h100, h144, h145, h146]; done) | rfl
  have x158 : cf .f32 r67 = (fwdC A_c).y := by first | with_reducible rfl | (simp only [rgtC, upC, fwdC, h2, h4, h6, h8, h10, h12, h14, h66, h68, h70, h87, h89, h91, h96, h98, h100, h144, h145, h146]; done) | (simp [rgtC, upC, fwdC, h2, h4, h6, h8, h10, h12, h14, h66, h68, h70, h87, h89, h91, h96, h98, h100, h144, h145, h146]; done) | rfl
  have x159 : cf .f32 r69 = (fwdC A_c).z := by first | with_reducible rfl | (simp only [rgtC, upC, fwdC, h2, h4, h6, h8, h10, h12, h14, h66, h68, h70, h87, h89, h91, h96, h98, h100, h144, h145, h146]; done) | (simp [rgtC, upC, fwdC, h2, h4, h6, h8, h10, h12, h14, h66, h68, h70, h87, h89, h91, h96, h98, h100, h144, h145, h146]; done) | rfl
  exact ⟨[(Fl r95), (Fl r97), (Fl r99)], [(Fl r141), (Fl r142), (Fl r143)], [(Fl r65), (Fl r67), (Fl r69)], rfl, ⟨r95, r97, r99, rfl, x151, x152, x153⟩, ⟨r141, r142, r143, rfl, x154, x155, x156⟩, ⟨r65, r67, r69, rfl, x157, x158, x159⟩⟩

/- spec.l00In -/
theorem c_spec_l00In (n : Int) (low : Int) (high : Int) (w : World) : Gives Try.prog 74 #[(Iv n), (Iv low), (Iv high)] w (fun v w' => v = (Bo (inI n low high))) := by
  refine enter [(Iv n), (Iv low), (Iv high), Ud, Ud, Ud, Ud, Ud, Ud, Ud, Ud, Ud, Ud, Ud, Ud] Try.func74 rfl Try.ntmps74 rfl ?_
  refine wp_seq_k fun K1 hK1 => ?_
  refine wp_region_lit ?_
  refine q_is (l' := [(Iv n), (Iv low), (Iv high), Ud, Ud, Ud, (Bo false), Ud, Ud, Ud, Ud, Ud, Ud, Ud, Ud]) rfl rfl (does_assign (u := (Bo false)) (ev rfl)) rfl ?_
  refine wpList_nil (hK1 _ _ ?_)
  refine wp_seq_k fun K2 hK2 => ?_
  obtain ⟨β1, hβ1⟩ : ∃ b : Bool, b = ((icmp .geq n low) && (icmp .leq n high)) := ⟨_, rfl⟩
  refine region_text (
    [Fact.pure [] (fun v => v = (Iv n)),
    Fact.pure [] (fun v => v = (Iv low)),
    Fact.pure [7, 8] (fun v => v = (Bo (icmp .geq n low))),
    Fact.pure [9] (fun v => v = (Bo (icmp .geq n low))),
    Fact.pure [10] (fun v => (icmp .geq n low) = true → v = (Iv n)),
    Fact.pure [10] (fun v => (icmp .geq n low) = true → v = (Iv high)),
    Fact.pure [11, 12, 10] (fun v => (icmp .geq n low) = true → v = (Bo (icmp .leq n high))),
    Fact.pure [10, 13] (fun v => v = (Bo β1))]) (by simp [Fact.pure, Fact.mem]) ?_
  refine RW_d (fun v3 => [(Iv n), (Iv low), (Iv high), Ud, Ud, Ud, (Bo false), v3, Ud, Ud, Ud, Ud, Ud, Ud, Ud]) rfl (fun _ => rfl) (fun u hu hF => ?_) (fun v3 => ?_)
  · clear hF
    refine doesG_un rfl ?_
    refine (does_move (u := (Iv n)) (ev rfl)).mono ?_; rintro _ _ ⟨rfl, rfl⟩
    exact ⟨rfl, Ext.refl _⟩
  refine RW_d (fun v4 => [(Iv n), (Iv low), (Iv high), Ud, Ud, Ud, (Bo false), v3, v4, Ud, Ud, Ud, Ud, Ud, Ud]) rfl (fun _ => rfl) (fun u hu hF => ?_) (fun v4 => ?_)
  · clear hF
    refine doesG_un rfl ?_
    refine (does_move (u := (Iv low)) (ev rfl)).mono ?_; rintro _ _ ⟨rfl, rfl⟩
    exact ⟨rfl, Ext.refl _⟩
  refine RW_d (fun v5 => [(Iv n), (Iv low), (Iv high), Ud, Ud, Ud, (Bo false), v3, v4, v5, Ud, Ud, Ud, Ud, Ud]) rfl (fun _ => rfl) (fun u hu hF => ?_) (fun v5 => ?_)
  · have h7_ : v3 = (Iv n) := hF.1
    have h8_ : v4 = (Iv low) := hF.2.1
    clear hF
    refine doesG_un rfl ?_
    obtain rfl := h7_
    obtain rfl := h8_
    refine (does_icmp (p := n) (q := low) (.inr (.inr (.inr (.inr (.inr rfl))))) (ev rfl) (ev rfl)).mono ?_; rintro _ _ ⟨rfl, rfl⟩
    exact ⟨rfl, Ext.refl _⟩
  refine RW_d (fun v6 => [(Iv n), (Iv low), (Iv high), Ud, Ud, Ud, (Bo false), v3, v4, v5, v6, Ud, Ud, Ud, Ud]) rfl (fun _ => rfl) (fun u hu hF => ?_) (fun v6 => ?_)
  · have h9_ : v5 = (Bo (icmp .geq n low)) := hF.1
    clear hF
    refine doesG_un rfl ?_
    obtain rfl := h9_
    refine (does_move (u := (Bo (icmp .geq n low))) (ev rfl)).mono ?_; rintro _ _ ⟨rfl, rfl⟩
    exact ⟨rfl, Ext.refl _⟩
  refine RW_d (fun v7 => [(Iv n), (Iv low), (Iv high), Ud, Ud, Ud, (Bo false), v3, v4, v5, v6, v7, Ud, Ud, Ud]) rfl (fun _ => rfl) (fun u hu hF => ?_) (fun v7 => ?_)
  · have h10_ : v6 = (Bo (icmp .geq n low)) := hF.1
    clear hF
    obtain rfl := h10_
    refine doesG_g (b := (icmp .geq n low)) rfl (yld rfl rfl) (fun hg1 => ?_) (fun hc => ⟨fun hg1 => absurd hg1 hc, Ext.refl _⟩)
    refine (does_move (u := (Iv n)) (ev rfl)).mono ?_; rintro _ _ ⟨rfl, rfl⟩
    exact ⟨fun _ => rfl, Ext.refl _⟩
  refine RW_d (fun v8 => [(Iv n), (Iv low), (Iv high), Ud, Ud, Ud, (Bo false), v3, v4, v5, v6, v7, v8, Ud, Ud]) rfl (fun _ => rfl) (fun u hu hF => ?_) (fun v8 => ?_)
  · have h10_ : v6 = (Bo (icmp .geq n low)) := hF.1
    clear hF
    obtain rfl := h10_
    refine doesG_g (b := (icmp .geq n low)) rfl (yld rfl rfl) (fun hg1 => ?_) (fun hc => ⟨fun hg1 => absurd hg1 hc, Ext.refl _⟩)
    refine (does_move (u := (Iv high)) (ev rfl)).mono ?_; rintro _ _ ⟨rfl, rfl⟩
    exact ⟨fun _ => rfl, Ext.refl _⟩
  refine RW_d (fun v9 => [(Iv n), (Iv low), (Iv high), Ud, Ud, Ud, (Bo false), v3, v4, v5, v6, v7, v8, v9, Ud]) rfl (fun _ => rfl) (fun u hu hF => ?_) (fun v9 => ?_)
  · have h11_ : (icmp .geq n low) = true → v7 = (Iv n) := hF.1
    have h12_ : (icmp .geq n low) = true → v8 = (Iv high) := hF.2.1
    have h10_ : v6 = (Bo (icmp .geq n low)) := hF.2.2.1
    clear hF
    obtain rfl := h10_
    refine doesG_g (b := (icmp .geq n low)) rfl (yld rfl rfl) (fun hg1 => ?_) (fun hc => ⟨fun hg1 => absurd hg1 hc, Ext.refl _⟩)
    obtain rfl := h11_ hg1
    obtain rfl := h12_ hg1
    refine (does_icmp (p := n) (q := high) (.inr (.inr (.inr (.inl rfl)))) (ev rfl) (ev rfl)).mono ?_; rintro _ _ ⟨rfl, rfl⟩
    exact ⟨fun _ => rfl, Ext.refl _⟩
  refine RW_d (fun v10 => [(Iv n), (Iv low), (Iv high), Ud, Ud, Ud, (Bo false), v3, v4, v5, v6, v7, v8, v9, v10]) rfl (fun _ => rfl) (fun u hu hF => ?_) (fun v10 => ?_)
  · have h10_ : v6 = (Bo (icmp .geq n low)) := hF.1
    have h13_ : (icmp .geq n low) = true → v9 = (Bo (icmp .leq n high)) := hF.2.1
    clear hF
    refine doesG_un rfl ?_
    skip
    obtain rfl := h10_
    refine (does_pick (b := (icmp .geq n low)) (ev rfl) (ev rfl) (ev rfl)).mono ?_; rintro _ _ ⟨rfl, rfl⟩; refine ⟨?_, Ext.refl _⟩; rw [hβ1]; skip
    cases hbb : (icmp .geq n low) <;> simp [hbb] at h13_ ⊢
    all_goals (first | rfl | (subst h13_; rfl) | simp_all)
  refine RW_fin ?_; intro w11 E12 hP13
  obtain ⟨⟨⟨⟨⟨⟨⟨⟨-, -⟩, -⟩, -⟩, -⟩, -⟩, -⟩, -⟩, q14⟩ := hP13
  have X15 := Ext.gr (Ext.refl w) E12
  have q14 : v10 = (Bo β1) := q14
  obtain rfl := q14
  show wpList _ _ _ _ (fr [(Iv n), (Iv low), (Iv high), Ud, Ud, Ud, (Bo false), v3, v4, v5, v6, v7, v8, v9, (Bo β1)]) _
  refine q_is (l' := [(Iv n), (Iv low), (Iv high), Ud, Ud, Ud, (Bo β1), v3, v4, v5, v6, v7, v8, v9, (Bo β1)]) rfl rfl (does_assign (u := (Bo β1)) (ev rfl)) rfl ?_
  refine wpList_nil (hK2 _ _ ?_)
  refine wp_ret ?_
  refine ret_val (v := (Bo β1)) (res_T rfl (slot rfl)) X15 ?_
  have x16 : (inI n low high) = β1 := by first | with_reducible rfl | (simp only [inI, hβ1]; done) | (simp [inI, hβ1]; done) | rfl
  exact (by first | rfl | rw [x16])

/- spec.l03Positive -/
theorem c_spec_l03Positive (x : Nat) (w : World) : Gives Try.prog 101 #[(Fl x)] w (fun v w' => v = (Bo (finF (cf .f32 x) && posF (cf .f32 x)))) := by
  refine enter [(Fl x), Ud, Ud, Ud, Ud, Ud, Ud, Ud, Ud] Try.func101 rfl Try.ntmps101 rfl ?_
  refine wp_seq_k fun K1 hK1 => ?_
  refine wp_region_lit ?_
  refine q_is (l' := [(Fl x), Ud, (Bo false), Ud, Ud, Ud, Ud, Ud, Ud]) rfl rfl (does_assign (u := (Bo false)) (ev rfl)) rfl ?_
  refine wpList_nil (hK1 _ _ ?_)
  refine wp_seq_k fun K2 hK2 => ?_
  obtain ⟨β1, hβ1⟩ : ∃ b : Bool, b = (fcmp .gtr (ford .f32 (cf .f32 x) (cf .f32 0))) := ⟨_, rfl⟩
  refine region_text (
    [Fact.pure [] (fun v => v = (Fl x)),
    Fact.pure [3] (fun v => v = (Bo (finF (cf .f32 x)))),
    Fact.pure [4] (fun v => v = (Bo (finF (cf .f32 x)))),
    Fact.pure [5] (fun v => (finF (cf .f32 x)) = true → v = (Fl x)),
    Fact.pure [6, 5] (fun v => (finF (cf .f32 x)) = true → v = (Bo β1)),
    Fact.pure [5, 7] (fun v => v = (Bo ((finF (cf .f32 x)) && β1)))]) (by simp [Fact.pure, Fact.mem]) ?_
  refine RW_d (fun v3 => [(Fl x), Ud, (Bo false), v3, Ud, Ud, Ud, Ud, Ud]) rfl (fun _ => rfl) (fun u hu hF => ?_) (fun v3 => ?_)
  · clear hF
    refine doesG_un rfl ?_
    refine (does_move (u := (Fl x)) (ev rfl)).mono ?_; rintro _ _ ⟨rfl, rfl⟩
    exact ⟨rfl, Ext.refl _⟩
  refine RW_d (fun v4 => [(Fl x), Ud, (Bo false), v3, v4, Ud, Ud, Ud, Ud]) rfl (fun _ => rfl) (fun u hu hF => ?_) (fun v4 => ?_)
  · have h3_ : v3 = (Fl x) := hF.1
    clear hF
    refine doesG_un rfl ?_
    obtain rfl := h3_
    refine (does_call (args := #[(Fl x)]) cal94 (evs rfl) (c_spec_l01Finite x _)).mono ?_; rintro v u' ⟨hx, hv⟩
    exact ⟨hv, hx⟩
  refine RW_d (fun v5 => [(Fl x), Ud, (Bo false), v3, v4, v5, Ud, Ud, Ud]) rfl (fun _ => rfl) (fun u hu hF => ?_) (fun v5 => ?_)
  · have h4_ : v4 = (Bo (finF (cf .f32 x))) := hF.1
    clear hF
    refine doesG_un rfl ?_
    obtain rfl := h4_
    refine (does_move (u := (Bo (finF (cf .f32 x)))) (ev rfl)).mono ?_; rintro _ _ ⟨rfl, rfl⟩
    exact ⟨rfl, Ext.refl _⟩
  refine RW_d (fun v6 => [(Fl x), Ud, (Bo false), v3, v4, v5, v6, Ud, Ud]) rfl (fun _ => rfl) (fun u hu hF => ?_) (fun v6 => ?_)
  · have h5_ : v5 = (Bo (finF (cf .f32 x))) := hF.1
    clear hF
    obtain rfl := h5_
    refine doesG_g (b := (finF (cf .f32 x))) rfl (yld rfl rfl) (fun hg1 => ?_) (fun hc => ⟨fun hg1 => absurd hg1 hc, Ext.refl _⟩)
    refine (does_move (u := (Fl x)) (ev rfl)).mono ?_; rintro _ _ ⟨rfl, rfl⟩
    exact ⟨fun _ => rfl, Ext.refl _⟩
  refine RW_d (fun v7 => [(Fl x), Ud, (Bo false), v3, v4, v5, v6, v7, Ud]) rfl (fun _ => rfl) (fun u hu hF => ?_) (fun v7 => ?_)
  · have h6_ : (finF (cf .f32 x)) = true → v6 = (Fl x) := hF.1
    have h5_ : v5 = (Bo (finF (cf .f32 x))) := hF.2.1
    clear hF
    obtain rfl := h5_
    refine doesG_g (b := (finF (cf .f32 x))) rfl (yld rfl rfl) (fun hg1 => ?_) (fun hc => ⟨fun hg1 => absurd hg1 hc, Ext.refl _⟩)
    obtain rfl := h6_ hg1
    refine (does_fcmp (.inr (.inr (.inr (.inr (.inl rfl))))) (ev rfl) (ev rfl)).mono ?_; rintro _ _ ⟨rfl, rfl⟩
    exact ⟨fun _ => (by first | rfl | (show _ = _; simp only [hβ1])), Ext.refl _⟩
  refine RW_d (fun v8 => [(Fl x), Ud, (Bo false), v3, v4, v5, v6, v7, v8]) rfl (fun _ => rfl) (fun u hu hF => ?_) (fun v8 => ?_)
  · have h5_ : v5 = (Bo (finF (cf .f32 x))) := hF.1
    have h7_ : (finF (cf .f32 x)) = true → v7 = (Bo β1) := hF.2.1
    clear hF
    refine doesG_un rfl ?_
    skip
    obtain rfl := h5_
    refine (does_pick (b := (finF (cf .f32 x))) (ev rfl) (ev rfl) (ev rfl)).mono ?_; rintro _ _ ⟨rfl, rfl⟩; refine ⟨?_, Ext.refl _⟩; skip
    cases hbb : (finF (cf .f32 x)) <;> simp [hbb] at h7_ ⊢
    all_goals (first | rfl | (subst h7_; rfl) | simp_all)
  refine RW_fin ?_; intro w9 E10 hP11
  obtain ⟨⟨⟨⟨⟨⟨-, -⟩, -⟩, -⟩, -⟩, -⟩, q12⟩ := hP11
  have X13 := Ext.gr (Ext.refl w) E10
  have q12 : v8 = (Bo ((finF (cf .f32 x)) && β1)) := q12
  obtain rfl := q12
  show wpList _ _ _ _ (fr [(Fl x), Ud, (Bo false), v3, v4, v5, v6, v7, (Bo ((finF (cf .f32 x)) && β1))]) _
  refine q_is (l' := [(Fl x), Ud, (Bo ((finF (cf .f32 x)) && β1)), v3, v4, v5, v6, v7, (Bo ((finF (cf .f32 x)) && β1))]) rfl rfl (does_assign (u := (Bo ((finF (cf .f32 x)) && β1))) (ev rfl)) rfl ?_
  refine wpList_nil (hK2 _ _ ?_)
  refine wp_ret ?_
  refine ret_val (v := (Bo ((finF (cf .f32 x)) && β1))) (res_T rfl (slot rfl)) X13 ?_
  have x14 : (finF (cf .f32 x) && posF (cf .f32 x)) = ((finF (cf .f32 x)) && β1) := by first | with_reducible rfl | (simp only [posF, hβ1]; done) | (simp [posF, hβ1]; done) | rfl
  exact (by first | rfl | rw [x14])

/- spec.l09Some -/
theorem c_spec_l09Some (v : List Value) (A_v : V3) (w : World) (hv_v : RV3 w A_v v) : Gives Try.prog 102 #[(.agg v.toArray)] w (fun v w' => v = (Bo (someV A_v))) := by
  obtain ⟨r1, r3, r5, rfl, h2, h4, h6⟩ := hv_v
  refine enter [(.agg #[(Fl r1), (Fl r3), (Fl r5)]), Ud, Ud, Ud, Ud, Ud, Ud, Ud, Ud, Ud, Ud, Ud, Ud, Ud, Ud, Ud, Ud, Ud, Ud, Ud, Ud, Ud, Ud, Ud, Ud, Ud, Ud, Ud, Ud, Ud, Ud, Ud, Ud, Ud, Ud, Ud, Ud] Try.func102 rfl Try.ntmps102 rfl ?_
  refine wp_seq_k fun K7 hK7 => ?_
  refine wp_region_lit ?_
  refine seqd rfl rfl (does_box (u := (.agg #[(Fl r1), (Fl r3), (Fl r5)])) (ev rfl)) ?_; rintro _ w12 ⟨b8, rfl, hb9, hB10, E11⟩
  have g13 : w.heap.size ≤ b8 := Nat.le_trans (Below.size (Ext.refl w)) hb9
  change Blk _ _ [(Fl r1), (Fl r3), (Fl r5)] at hB10
  have X14 := Ext.gr (Ext.refl w) E11
  show wpList _ _ _ _ (fr [(.agg #[(Fl r1), (Fl r3), (Fl r5)]), (Pt b8 0), Ud, Ud, Ud, Ud, Ud, Ud, Ud, Ud, Ud, Ud, Ud, Ud, Ud, Ud, Ud, Ud, Ud, Ud, Ud, Ud, Ud, Ud, Ud, Ud, Ud, Ud, Ud, Ud, Ud, Ud, Ud, Ud, Ud, Ud, Ud]) _
  refine q_is rfl rfl (does_assign (u := (Bo false)) (ev rfl)) (by dsimp only [List.set]; try rfl) ?_
  refine wpList_nil (hK7 _ _ ?_)
  refine wp_seq_k fun K15 hK15 => ?_
  obtain ⟨β1, hβ1⟩ : ∃ b : Bool, b = (fcmp .eql (ford .f32 (cf .f32 r1) (cf .f32 r1))) := ⟨_, rfl⟩
  obtain ⟨β2, hβ2⟩ : ∃ b : Bool, b = (fcmp .eql (ford .f32 (cf .f32 r3) (cf .f32 r3))) := ⟨_, rfl⟩
  obtain ⟨β3, hβ3⟩ : ∃ b : Bool, b = (fcmp .eql (ford .f32 (cf .f32 r5) (cf .f32 r5))) := ⟨_, rfl⟩
  obtain ⟨β4, hβ4⟩ : ∃ b : Bool, b = (fcmp .neq (ford .f32 (cf .f32 r1) (cf .f32 0))) := ⟨_, rfl⟩
  obtain ⟨β5, hβ5⟩ : ∃ b : Bool, b = (fcmp .neq (ford .f32 (cf .f32 r3) (cf .f32 0))) := ⟨_, rfl⟩
  obtain ⟨β6, hβ6⟩ : ∃ b : Bool, b = (fcmp .neq (ford .f32 (cf .f32 r5) (cf .f32 0))) := ⟨_, rfl⟩
  obtain ⟨β7, hβ7⟩ : ∃ b : Bool, b = (((β1 && β2) && β3) && ((β4 || β5) || β6)) := ⟨_, rfl⟩
  refine region_text (
    [Fact.pure [] (fun v => v = (Pt b8 0)),
    Fact.pure [3] (fun v => v = (Fl r1)),
    Fact.pure [] (fun v => v = (Pt b8 0)),
    Fact.pure [5] (fun v => v = (Fl r1)),
    Fact.pure [4, 6] (fun v => v = (Bo β1)),
    Fact.pure [7] (fun v => v = (Bo β1)),
    Fact.pure [8] (fun v => β1 = true → v = (Pt b8 1)),
    Fact.pure [9, 8] (fun v => β1 = true → v = (Fl r3)),
    Fact.pure [8] (fun v => β1 = true → v = (Pt b8 1)),
    Fact.pure [11, 8] (fun v => β1 = true → v = (Fl r3)),
    Fact.pure [10, 12, 8] (fun v => β1 = true → v = (Bo β2)),
    Fact.pure [8, 13] (fun v => v = (Bo (β1 && β2))),
    Fact.pure [14] (fun v => v = (Bo (β1 && β2))),
    Fact.pure [15] (fun v => (β1 && β2) = true → v = (Pt b8 2)),
    Fact.pure [16, 15] (fun v => (β1 && β2) = true → v = (Fl r5)),
    Fact.pure [15] (fun v => (β1 && β2) = true → v = (Pt b8 2)),
    Fact.pure [18, 15] (fun v => (β1 && β2) = true → v = (Fl r5)),
    Fact.pure [17, 19, 15] (fun v => (β1 && β2) = true → v = (Bo β3)),
    Fact.pure [15, 20] (fun v => v = (Bo ((β1 && β2) && β3))),
    Fact.pure [21] (fun v => v = (Bo ((β1 && β2) && β3))),
    Fact.pure [22] (fun v => ((β1 && β2) && β3) = true → v = (Pt b8 0)),
    Fact.pure [23, 22] (fun v => ((β1 && β2) && β3) = true → v = (Fl r1)),
    Fact.pure [24, 22] (fun v => ((β1 && β2) && β3) = true → v = (Bo β4)),
    Fact.pure [25, 22] (fun v => (((β1 && β2) && β3) = true → v = (Bo β4)) ∧ (¬ (((β1 && β2) && β3) = true) → v = undef)),
    Fact.pure [26] (fun v => ((β1 && β2) && β3) = true → β4 = false → v = (Pt b8 1)),
    Fact.pure [27, 26] (fun v => ((β1 && β2) && β3) = true → β4 = false → v = (Fl r3)),
    Fact.pure [28, 26] (fun v => ((β1 && β2) && β3) = true → β4 = false → v = (Bo β5)),
    Fact.pure [26, 29, 22] (fun v => ((β1 && β2) && β3) = true → v = (Bo (β4 || β5))),
    Fact.pure [30, 22] (fun v => (((β1 && β2) && β3) = true → v = (Bo (β4 || β5))) ∧ (¬ (((β1 && β2) && β3) = true) → v = undef)),
    Fact.pure [31] (fun v => ((β1 && β2) && β3) = true → (β4 || β5) = false → v = (Pt b8 2)),
    Fact.pure [32, 31] (fun v => ((β1 && β2) && β3) = true → (β4 || β5) = false → v = (Fl r5)),
    Fact.pure [33, 31] (fun v => ((β1 && β2) && β3) = true → (β4 || β5) = false → v = (Bo β6)),
    Fact.pure [31, 34, 22] (fun v => ((β1 && β2) && β3) = true → v = (Bo ((β4 || β5) || β6))),
    Fact.pure [22, 35] (fun v => v = (Bo β7))]) (by simp [Fact.pure, Fact.mem]) ?_
  refine RW_d _ rfl (fun v => by dsimp only [List.set]; try rfl) (fun u hu hF => ?_) (fun v16 => ?_)
  · clear hF
    refine doesG_un rfl ?_
    refine (does_fieldAddr (ev rfl) fa26_0).mono ?_; rintro _ _ ⟨rfl, rfl⟩
    exact ⟨rfl, Ext.refl _⟩
  refine RW_d _ rfl (fun v => by dsimp only [List.set]; try rfl) (fun u hu hF => ?_) (fun v17 => ?_)
  · have h3_ : v16 = (Pt b8 0) := hF.1
    clear hF
    refine doesG_un rfl ?_
    obtain rfl := h3_
    refine (does_load (u := (Fl r1)) (ev rfl) Try.isAgg24 (Cells.at (Blk.cells (hB10.ext hu)) 0 rfl)).mono ?_; rintro _ _ ⟨rfl, rfl⟩
    exact ⟨rfl, Ext.refl _⟩
  refine RW_d _ rfl (fun v => by dsimp only [List.set]; try rfl) (fun u hu hF => ?_) (fun v18 => ?_)
  · clear hF
    refine doesG_un rfl ?_
    refine (does_fieldAddr (ev rfl) fa26_0).mono ?_; rintro _ _ ⟨rfl, rfl⟩
    exact ⟨rfl, Ext.refl _⟩
  refine RW_d _ rfl (fun v => by dsimp only [List.set]; try rfl) (fun u hu hF => ?_) (fun v19 => ?_)
  · have h5_ : v18 = (Pt b8 0) := hF.1
    clear hF
    refine doesG_un rfl ?_
    obtain rfl := h5_
    refine (does_load (u := (Fl r1)) (ev rfl) Try.isAgg24 (Cells.at (Blk.cells (hB10.ext hu)) 0 rfl)).mono ?_; rintro _ _ ⟨rfl, rfl⟩
    exact ⟨rfl, Ext.refl _⟩
  refine RW_d _ rfl (fun v => by dsimp only [List.set]; try rfl) (fun u hu hF => ?_) (fun v20 => ?_)
  · have h4_ : v17 = (Fl r1) := hF.1
    have h6_ : v19 = (Fl r1) := hF.2.1
    clear hF
    refine doesG_un rfl ?_
    obtain rfl := h4_
    obtain rfl := h6_
    refine (does_fcmp (.inl rfl) (ev rfl) (ev rfl)).mono ?_; rintro _ _ ⟨rfl, rfl⟩
    exact ⟨(by first | rfl | (show _ = _; simp only [hβ1])), Ext.refl _⟩
  refine RW_d _ rfl (fun v => by dsimp only [List.set]; try rfl) (fun u hu hF => ?_) (fun v21 => ?_)
  · have h7_ : v20 = (Bo β1) := hF.1
    clear hF
    refine doesG_un rfl ?_
    obtain rfl := h7_
    refine (does_move (u := (Bo β1)) (ev rfl)).mono ?_; rintro _ _ ⟨rfl, rfl⟩
    exact ⟨rfl, Ext.refl _⟩
  refine RW_d _ rfl (fun v => by dsimp only [List.set]; try rfl) (fun u hu hF => ?_) (fun v22 => ?_)
  · have h8_ : v21 = (Bo β1) := hF.1
    clear hF
    obtain rfl := h8_
    refine doesG_g (b := β1) rfl (yld rfl rfl) (fun hg1 => ?_) (fun hc => ⟨fun hg1 => absurd hg1 hc, Ext.refl _⟩)
    refine (does_fieldAddr (ev rfl) fa26_1).mono ?_; rintro _ _ ⟨rfl, rfl⟩
    exact ⟨fun _ => rfl, Ext.refl _⟩
  refine RW_d _ rfl (fun v => by dsimp only [List.set]; try rfl) (fun u hu hF => ?_) (fun v23 => ?_)
  · have h9_ : β1 = true → v22 = (Pt b8 1) := hF.1
    have h8_ : v21 = (Bo β1) := hF.2.1
    clear hF
    obtain rfl := h8_
    refine doesG_g (b := β1) rfl (yld rfl rfl) (fun hg1 => ?_) (fun hc => ⟨fun hg1 => absurd hg1 hc, Ext.refl _⟩)
    obtain rfl := h9_ hg1
    refine (does_load (u := (Fl r3)) (ev rfl) Try.isAgg24 (Cells.at (Blk.cells (hB10.ext hu)) 1 rfl)).mono ?_; rintro _ _ ⟨rfl, rfl⟩
    exact ⟨fun _ => rfl, Ext.refl _⟩
  refine RW_d _ rfl (fun v => by dsimp only [List.set]; try rfl) (fun u hu hF => ?_) (fun v24 => ?_)
  · have h8_ : v21 = (Bo β1) := hF.1
    clear hF
    obtain rfl := h8_
    refine doesG_g (b := β1) rfl (yld rfl rfl) (fun hg1 => ?_) (fun hc => ⟨fun hg1 => absurd hg1 hc, Ext.refl _⟩)
    refine (does_fieldAddr (ev rfl) fa26_1).mono ?_; rintro _ _ ⟨rfl, rfl⟩
    exact ⟨fun _ => rfl, Ext.refl _⟩
  refine RW_d _ rfl (fun v => by dsimp only [List.set]; try rfl) (fun u hu hF => ?_) (fun v25 => ?_)
  · have h11_ : β1 = true → v24 = (Pt b8 1) := hF.1
    have h8_ : v21 = (Bo β1) := hF.2.1
    clear hF
    obtain rfl := h8_
    refine doesG_g (b := β1) rfl (yld rfl rfl) (fun hg1 => ?_) (fun hc => ⟨fun hg1 => absurd hg1 hc, Ext.refl _⟩)
    obtain rfl := h11_ hg1
    refine (does_load (u := (Fl r3)) (ev rfl) Try.isAgg24 (Cells.at (Blk.cells (hB10.ext hu)) 1 rfl)).mono ?_; rintro _ _ ⟨rfl, rfl⟩
    exact ⟨fun _ => rfl, Ext.refl _⟩
  refine RW_d _ rfl (fun v => by dsimp only [List.set]; try rfl) (fun u hu hF => ?_) (fun v26 => ?_)
  · have h10_ : β1 = true → v23 = (Fl r3) := hF.1
    have h12_ : β1 = true → v25 = (Fl r3) := hF.2.1
    have h8_ : v21 = (Bo β1) := hF.2.2.1
    clear hF
    obtain rfl := h8_
    refine doesG_g (b := β1) rfl (yld rfl rfl) (fun hg1 => ?_) (fun hc => ⟨fun hg1 => absurd hg1 hc, Ext.refl _⟩)
    obtain rfl := h10_ hg1
    obtain rfl := h12_ hg1
    refine (does_fcmp (.inl rfl) (ev rfl) (ev rfl)).mono ?_; rintro _ _ ⟨rfl, rfl⟩
    exact ⟨fun _ => (by first | rfl | (show _ = _; simp only [hβ2])), Ext.refl _⟩
  refine RW_d _ rfl (fun v => by dsimp only [List.set]; try rfl) (fun u hu hF => ?_) (fun v27 => ?_)
  · have h8_ : v21 = (Bo β1) := hF.1
    have h13_ : β1 = true → v26 = (Bo β2) := hF.2.1
    clear hF
    refine doesG_un rfl ?_
    skip
    obtain rfl := h8_
    refine (does_pick (b := β1) (ev rfl) (ev rfl) (ev rfl)).mono ?_; rintro _ _ ⟨rfl, rfl⟩; refine ⟨?_, Ext.refl _⟩; skip
    cases hbb : β1 <;> simp [hbb] at h13_ ⊢
    all_goals (first | rfl | (subst h13_; rfl) | simp_all)
  refine RW_d _ rfl (fun v => by dsimp only [List.set]; try rfl) (fun u hu hF => ?_) (fun v28 => ?_)
  · have h14_ : v27 = (Bo (β1 && β2)) := hF.1
    clear hF
    refine doesG_un rfl ?_
    obtain rfl := h14_
    refine (does_move (u := (Bo (β1 && β2))) (ev rfl)).mono ?_; rintro _ _ ⟨rfl, rfl⟩
    exact ⟨rfl, Ext.refl _⟩
  refine RW_d _ rfl (fun v => by dsimp only [List.set]; try rfl) (fun u hu hF => ?_) (fun v29 => ?_)
  · have h15_ : v28 = (Bo (β1 && β2)) := hF.1
    clear hF
    obtain rfl := h15_
    refine doesG_g (b := (β1 && β2)) rfl (yld rfl rfl) (fun hg1 => ?_) (fun hc => ⟨fun hg1 => absurd hg1 hc, Ext.refl _⟩)
    refine (does_fieldAddr (ev rfl) fa26_2).mono ?_; rintro _ _ ⟨rfl, rfl⟩
    exact ⟨fun _ => rfl, Ext.refl _⟩
  refine RW_d _ rfl (fun v => by dsimp only [List.set]; try rfl) (fun u hu hF => ?_) (fun v30 => ?_)
  · have h16_ : (β1 && β2) = true → v29 = (Pt b8 2) := hF.1
    have h15_ : v28 = (Bo (β1 && β2)) := hF.2.1
    clear hF
    obtain rfl := h15_
    refine doesG_g (b := (β1 && β2)) rfl (yld rfl rfl) (fun hg1 => ?_) (fun hc => ⟨fun hg1 => absurd hg1 hc, Ext.refl _⟩)
    obtain rfl := h16_ hg1
    refine (does_load (u := (Fl r5)) (ev rfl) Try.isAgg24 (Cells.at (Blk.cells (hB10.ext hu)) 2 rfl)).mono ?_; rintro _ _ ⟨rfl, rfl⟩
    exact ⟨fun _ => rfl, Ext.refl _⟩
  refine RW_d _ rfl (fun v => by dsimp only [List.set]; try rfl) (fun u hu hF => ?_) (fun v31 => ?_)
  · have h15_ : v28 = (Bo (β1 && β2)) := hF.1
    clear hF
    obtain rfl := h15_
    refine doesG_g (b := (β1 && β2)) rfl (yld rfl rfl) (fun hg1 => ?_) (fun hc => ⟨fun hg1 => absurd hg1 hc, Ext.refl _⟩)
    refine (does_fieldAddr (ev rfl) fa26_2).mono ?_; rintro _ _ ⟨rfl, rfl⟩
    exact ⟨fun _ => rfl, Ext.refl _⟩
  refine RW_d _ rfl (fun v => by dsimp only [List.set]; try rfl) (fun u hu hF => ?_) (fun v32 => ?_)
  · have h18_ : (β1 && β2) = true → v31 = (Pt b8 2) := hF.1
    have h15_ : v28 = (Bo (β1 && β2)) := hF.2.1
    clear hF
    obtain rfl := h15_
    refine doesG_g (b := (β1 && β2)) rfl (yld rfl rfl) (fun hg1 => ?_) (fun hc => ⟨fun hg1 => absurd hg1 hc, Ext.refl _⟩)
    obtain rfl := h18_ hg1
    refine (does_load (u := (Fl r5)) (ev rfl) Try.isAgg24 (Cells.at (Blk.cells (hB10.ext hu)) 2 rfl)).mono ?_; rintro _ _ ⟨rfl, rfl⟩
    exact ⟨fun _ => rfl, Ext.refl _⟩
  refine RW_d _ rfl (fun v => by dsimp only [List.set]; try rfl) (fun u hu hF => ?_) (fun v33 => ?_)
  · have h17_ : (β1 && β2) = true → v30 = (Fl r5) := hF.1
    have h19_ : (β1 && β2) = true → v32 = (Fl r5) := hF.2.1
    have h15_ : v28 = (Bo (β1 && β2)) := hF.2.2.1
    clear hF
    obtain rfl := h15_
    refine doesG_g (b := (β1 && β2)) rfl (yld rfl rfl) (fun hg1 => ?_) (fun hc => ⟨fun hg1 => absurd hg1 hc, Ext.refl _⟩)
    obtain rfl := h17_ hg1
    obtain rfl := h19_ hg1
    refine (does_fcmp (.inl rfl) (ev rfl) (ev rfl)).mono ?_; rintro _ _ ⟨rfl, rfl⟩
    exact ⟨fun _ => (by first | rfl | (show _ = _; simp only [hβ3])), Ext.refl _⟩
  refine RW_d _ rfl (fun v => by dsimp only [List.set]; try rfl) (fun u hu hF => ?_) (fun v34 => ?_)
  · have h15_ : v28 = (Bo (β1 && β2)) := hF.1
    have h20_ : (β1 && β2) = true → v33 = (Bo β3) := hF.2.1
    clear hF
    refine doesG_un rfl ?_
    skip
    obtain rfl := h15_
    refine (does_pick (b := (β1 && β2)) (ev rfl) (ev rfl) (ev rfl)).mono ?_; rintro _ _ ⟨rfl, rfl⟩; refine ⟨?_, Ext.refl _⟩; skip
    cases hbb : (β1 && β2) <;> simp [hbb] at h20_ ⊢
    all_goals (first | rfl | (subst h20_; rfl) | simp_all)
  refine RW_d _ rfl (fun v => by dsimp only [List.set]; try rfl) (fun u hu hF => ?_) (fun v35 => ?_)
  · have h21_ : v34 = (Bo ((β1 && β2) && β3)) := hF.1
    clear hF
    refine doesG_un rfl ?_
    obtain rfl := h21_
    refine (does_move (u := (Bo ((β1 && β2) && β3))) (ev rfl)).mono ?_; rintro _ _ ⟨rfl, rfl⟩
    exact ⟨rfl, Ext.refl _⟩
  refine RW_d _ rfl (fun v => by dsimp only [List.set]; try rfl) (fun u hu hF => ?_) (fun v36 => ?_)
  · have h22_ : v35 = (Bo ((β1 && β2) && β3)) := hF.1
    clear hF
    obtain rfl := h22_
    refine doesG_g (b := ((β1 && β2) && β3)) rfl (yld rfl rfl) (fun hg1 => ?_) (fun hc => ⟨fun hg1 => absurd hg1 hc, Ext.refl _⟩)
    refine (does_fieldAddr (ev rfl) fa26_0).mono ?_; rintro _ _ ⟨rfl, rfl⟩
    exact ⟨fun _ => rfl, Ext.refl _⟩
  refine RW_d _ rfl (fun v => by dsimp only [List.set]; try rfl) (fun u hu hF => ?_) (fun v37 => ?_)
  · have h23_ : ((β1 && β2) && β3) = true → v36 = (Pt b8 0) := hF.1
    have h22_ : v35 = (Bo ((β1 && β2) && β3)) := hF.2.1
    clear hF
    obtain rfl := h22_
    refine doesG_g (b := ((β1 && β2) && β3)) rfl (yld rfl rfl) (fun hg1 => ?_) (fun hc => ⟨fun hg1 => absurd hg1 hc, Ext.refl _⟩)
    obtain rfl := h23_ hg1
    refine (does_load (u := (Fl r1)) (ev rfl) Try.isAgg24 (Cells.at (Blk.cells (hB10.ext hu)) 0 rfl)).mono ?_; rintro _ _ ⟨rfl, rfl⟩
    exact ⟨fun _ => rfl, Ext.refl _⟩
  refine RW_d _ rfl (fun v => by dsimp only [List.set]; try rfl) (fun u hu hF => ?_) (fun v38 => ?_)
  · have h24_ : ((β1 && β2) && β3) = true → v37 = (Fl r1) := hF.1
    have h22_ : v35 = (Bo ((β1 && β2) && β3)) := hF.2.1
    clear hF
    obtain rfl := h22_
    refine doesG_g (b := ((β1 && β2) && β3)) rfl (yld rfl rfl) (fun hg1 => ?_) (fun hc => ⟨fun hg1 => absurd hg1 hc, Ext.refl _⟩)
    obtain rfl := h24_ hg1
    refine (does_fcmp (.inr (.inl rfl)) (ev rfl) (ev rfl)).mono ?_; rintro _ _ ⟨rfl, rfl⟩
    exact ⟨fun _ => (by first | rfl | (show _ = _; simp only [hβ4])), Ext.refl _⟩
  refine RW_d _ rfl (fun v => by dsimp only [List.set]; try rfl) (fun u hu hF => ?_) (fun v39 => ?_)
  · have h25_ : ((β1 && β2) && β3) = true → v38 = (Bo β4) := hF.1
    have h22_ : v35 = (Bo ((β1 && β2) && β3)) := hF.2.1
    clear hF
    obtain rfl := h22_
    refine doesG_g (b := ((β1 && β2) && β3)) rfl (yld rfl rfl) (fun hg1 => ?_) (fun hc => ⟨⟨fun hg1 => absurd hg1 hc, fun _ => rfl⟩, Ext.refl _⟩)
    obtain rfl := h25_ hg1
    refine (does_move (u := (Bo β4)) (ev rfl)).mono ?_; rintro _ _ ⟨rfl, rfl⟩
    exact ⟨⟨fun _ => rfl, fun hn => absurd hg1 hn⟩, Ext.refl _⟩
  refine RW_d _ rfl (fun v => by dsimp only [List.set]; try rfl) (fun u hu hF => ?_) (fun v40 => ?_)
  · have h26_ : (((β1 && β2) && β3) = true → v39 = (Bo β4)) ∧ (¬ (((β1 && β2) && β3) = true) → v39 = undef) := hF.1; have h26u := h26_.2; replace h26_ := h26_.1
    clear hF
    refine doesG_gg (b := β4) (c := ((β1 && β2) && β3) = true) rfl (fun hc => ?_) (fun hc => ?_) (fun hc hg2 => ?_) (fun hc => ⟨fun hg1 hg2 => absurd ⟨hg1, hg2⟩ hc, Ext.refl _⟩)
    · have hg1 := hc; obtain rfl := h26_ hg1; exact yld rfl rfl
    · obtain rfl := h26u hc; exact yldn rfl rfl
    have hg1 := hc
    obtain rfl := h26_ hg1
    refine (does_fieldAddr (ev rfl) fa26_1).mono ?_; rintro _ _ ⟨rfl, rfl⟩
    exact ⟨fun _ _ => rfl, Ext.refl _⟩
  refine RW_d _ rfl (fun v => by dsimp only [List.set]; try rfl) (fun u hu hF => ?_) (fun v41 => ?_)
  · have h27_ : ((β1 && β2) && β3) = true → β4 = false → v40 = (Pt b8 1) := hF.1
    have h26_ : (((β1 && β2) && β3) = true → v39 = (Bo β4)) ∧ (¬ (((β1 && β2) && β3) = true) → v39 = undef) := hF.2.1; have h26u := h26_.2; replace h26_ := h26_.1
    clear hF
    refine doesG_gg (b := β4) (c := ((β1 && β2) && β3) = true) rfl (fun hc => ?_) (fun hc => ?_) (fun hc hg2 => ?_) (fun hc => ⟨fun hg1 hg2 => absurd ⟨hg1, hg2⟩ hc, Ext.refl _⟩)
    · have hg1 := hc; obtain rfl := h26_ hg1; exact yld rfl rfl
    · obtain rfl := h26u hc; exact yldn rfl rfl
    have hg1 := hc
    obtain rfl := h26_ hg1
    obtain rfl := h27_ hg1 hg2
    refine (does_load (u := (Fl r3)) (ev rfl) Try.isAgg24 (Cells.at (Blk.cells (hB10.ext hu)) 1 rfl)).mono ?_; rintro _ _ ⟨rfl, rfl⟩
    exact ⟨fun _ _ => rfl, Ext.refl _⟩
  refine RW_d _ rfl (fun v => by dsimp only [List.set]; try rfl) (fun u hu hF => ?_) (fun v42 => ?_)
  · have h28_ : ((β1 && β2) && β3) = true → β4 = false → v41 = (Fl r3) := hF.1
    have h26_ : (((β1 && β2) && β3) = true → v39 = (Bo β4)) ∧ (¬ (((β1 && β2) && β3) = true) → v39 = undef) := hF.2.1; have h26u := h26_.2; replace h26_ := h26_.1
    clear hF
    refine doesG_gg (b := β4) (c := ((β1 && β2) && β3) = true) rfl (fun hc => ?_) (fun hc => ?_) (fun hc hg2 => ?_) (fun hc => ⟨fun hg1 hg2 => absurd ⟨hg1, hg2⟩ hc, Ext.refl _⟩)
    · have hg1 := hc; obtain rfl := h26_ hg1; exact yld rfl rfl
    · obtain rfl := h26u hc; exact yldn rfl rfl
    have hg1 := hc
    obtain rfl := h26_ hg1
    obtain rfl := h28_ hg1 hg2
    refine (does_fcmp (.inr (.inl rfl)) (ev rfl) (ev rfl)).mono ?_; rintro _ _ ⟨rfl, rfl⟩
    exact ⟨fun _ _ => (by first | rfl | (show _ = _; simp only [hβ5])), Ext.refl _⟩
  refine RW_d _ rfl (fun v => by dsimp only [List.set]; try rfl) (fun u hu hF => ?_) (fun v43 => ?_)
  · have h26_ : (((β1 && β2) && β3) = true → v39 = (Bo β4)) ∧ (¬ (((β1 && β2) && β3) = true) → v39 = undef) := hF.1; have h26u := h26_.2; replace h26_ := h26_.1
    have h29_ : ((β1 && β2) && β3) = true → β4 = false → v42 = (Bo β5) := hF.2.1
    have h22_ : v35 = (Bo ((β1 && β2) && β3)) := hF.2.2.1
    clear hF
    obtain rfl := h22_
    refine doesG_g (b := ((β1 && β2) && β3)) rfl (yld rfl rfl) (fun hg1 => ?_) (fun hc => ⟨fun hg1 => absurd hg1 hc, Ext.refl _⟩)
    skip
    obtain rfl := h26_ hg1
    replace h29_ := h29_ hg1
    refine (does_pick (b := β4) (ev rfl) (ev rfl) (ev rfl)).mono ?_; rintro _ _ ⟨rfl, rfl⟩; refine ⟨fun _ => ?_, Ext.refl _⟩; skip
    cases hbb : β4 <;> simp [hbb] at h29_ ⊢
    all_goals (first | rfl | (subst h29_; rfl) | simp_all)
  refine RW_d _ rfl (fun v => by dsimp only [List.set]; try rfl) (fun u hu hF => ?_) (fun v44 => ?_)
  · have h30_ : ((β1 && β2) && β3) = true → v43 = (Bo (β4 || β5)) := hF.1
    have h22_ : v35 = (Bo ((β1 && β2) && β3)) := hF.2.1
    clear hF
    obtain rfl := h22_
    refine doesG_g (b := ((β1 && β2) && β3)) rfl (yld rfl rfl) (fun hg1 => ?_) (fun hc => ⟨⟨fun hg1 => absurd hg1 hc, fun _ => rfl⟩, Ext.refl _⟩)
    obtain rfl := h30_ hg1
    refine (does_move (u := (Bo (β4 || β5))) (ev rfl)).mono ?_; rintro _ _ ⟨rfl, rfl⟩
    exact ⟨⟨fun _ => rfl, fun hn => absurd hg1 hn⟩, Ext.refl _⟩
  refine RW_d _ rfl (fun v => by dsimp only [List.set]; try rfl) (fun u hu hF => ?_) (fun v45 => ?_)
  · have h31_ : (((β1 && β2) && β3) = true → v44 = (Bo (β4 || β5))) ∧ (¬ (((β1 && β2) && β3) = true) → v44 = undef) := hF.1; have h31u := h31_.2; replace h31_ := h31_.1
    clear hF
    refine doesG_gg (b := (β4 || β5)) (c := ((β1 && β2) && β3) = true) rfl (fun hc => ?_) (fun hc => ?_) (fun hc hg2 => ?_) (fun hc => ⟨fun hg1 hg2 => absurd ⟨hg1, hg2⟩ hc, Ext.refl _⟩)
    · have hg1 := hc; obtain rfl := h31_ hg1; exact yld rfl rfl
    · obtain rfl := h31u hc; exact yldn rfl rfl
    have hg1 := hc
    obtain rfl := h31_ hg1
    refine (does_fieldAddr (ev rfl) fa26_2).mono ?_; rintro _ _ ⟨rfl, rfl⟩
    exact ⟨fun _ _ => rfl, Ext.refl _⟩
  refine RW_d _ rfl (fun v => by dsimp only [List.set]; try rfl) (fun u hu hF => ?_) (fun v46 => ?_)
  · have h32_ : ((β1 && β2) && β3) = true → (β4 || β5) = false → v45 = (Pt b8 2) := hF.1
    have h31_ : (((β1 && β2) && β3) = true → v44 = (Bo (β4 || β5))) ∧ (¬ (((β1 && β2) && β3) = true) → v44 = undef) := hF.2.1; have h31u := h31_.2; replace h31_ := h31_.1
    clear hF
    refine doesG_gg (b := (β4 || β5)) (c := ((β1 && β2) && β3) = true) rfl (fun hc => ?_) (fun hc => ?_) (fun hc hg2 => ?_) (fun hc => ⟨fun hg1 hg2 => absurd ⟨hg1, hg2⟩ hc, Ext.refl _⟩)
    · have hg1 := hc; obtain rfl := h31_ hg1; exact yld rfl rfl
    · obtain rfl := h31u hc; exact yldn rfl rfl
    have hg1 := hc
    obtain rfl := h31_ hg1
    obtain rfl := h32_ hg1 hg2
    refine (does_load (u := (Fl r5)) (ev rfl) Try.isAgg24 (Cells.at (Blk.cells (hB10.ext hu)) 2 rfl)).mono ?_; rintro _ _ ⟨rfl, rfl⟩
    exact ⟨fun _ _ => rfl, Ext.refl _⟩
  refine RW_d _ rfl (fun v => by dsimp only [List.set]; try rfl) (fun u hu hF => ?_) (fun v47 => ?_)
  · have h33_ : ((β1 && β2) && β3) = true → (β4 || β5) = false → v46 = (Fl r5) := hF.1
    have h31_ : (((β1 && β2) && β3) = true → v44 = (Bo (β4 || β5))) ∧ (¬ (((β1 && β2) && β3) = true) → v44 = undef) := hF.2.1; have h31u := h31_.2; replace h31_ := h31_.1
    clear hF
    refine doesG_gg (b := (β4 || β5)) (c := ((β1 && β2) && β3) = true) rfl (fun hc => ?_) (fun hc => ?_) (fun hc hg2 => ?_) (fun hc => ⟨fun hg1 hg2 => absurd ⟨hg1, hg2⟩ hc, Ext.refl _⟩)
    · have hg1 := hc; obtain rfl := h31_ hg1; exact yld rfl rfl
    · obtain rfl := h31u hc; exact yldn rfl rfl
    have hg1 := hc
    obtain rfl := h31_ hg1
    obtain rfl := h33_ hg1 hg2
    refine (does_fcmp (.inr (.inl rfl)) (ev rfl) (ev rfl)).mono ?_; rintro _ _ ⟨rfl, rfl⟩
    exact ⟨fun _ _ => (by first | rfl | (show _ = _; simp only [hβ6])), Ext.refl _⟩
  refine RW_d _ rfl (fun v => by dsimp only [List.set]; try rfl) (fun u hu hF => ?_) (fun v48 => ?_)
  · have h31_ : (((β1 && β2) && β3) = true → v44 = (Bo (β4 || β5))) ∧ (¬ (((β1 && β2) && β3) = true) → v44 = undef) := hF.1; have h31u := h31_.2; replace h31_ := h31_.1
    have h34_ : ((β1 && β2) && β3) = true → (β4 || β5) = false → v47 = (Bo β6) := hF.2.1
    have h22_ : v35 = (Bo ((β1 && β2) && β3)) := hF.2.2.1
    clear hF
    obtain rfl := h22_
    refine doesG_g (b := ((β1 && β2) && β3)) rfl (yld rfl rfl) (fun hg1 => ?_) (fun hc => ⟨fun hg1 => absurd hg1 hc, Ext.refl _⟩)
    skip
    obtain rfl := h31_ hg1
    replace h34_ := h34_ hg1
    refine (does_pick (b := (β4 || β5)) (ev rfl) (ev rfl) (ev rfl)).mono ?_; rintro _ _ ⟨rfl, rfl⟩; refine ⟨fun _ => ?_, Ext.refl _⟩; skip
    cases hbb : (β4 || β5) <;> simp [hbb] at h34_ ⊢
    all_goals (first | rfl | (subst h34_; rfl) | simp_all)
  refine RW_d _ rfl (fun v => by dsimp only [List.set]; try rfl) (fun u hu hF => ?_) (fun v49 => ?_)
  · have h22_ : v35 = (Bo ((β1 && β2) && β3)) := hF.1
    have h35_ : ((β1 && β2) && β3) = true → v48 = (Bo ((β4 || β5) || β6)) := hF.2.1
    clear hF
    refine doesG_un rfl ?_
    skip
    obtain rfl := h22_
    refine (does_pick (b := ((β1 && β2) && β3)) (ev rfl) (ev rfl) (ev rfl)).mono ?_; rintro _ _ ⟨rfl, rfl⟩; refine ⟨?_, Ext.refl _⟩; rw [hβ7]; skip
    cases hbb : ((β1 && β2) && β3) <;> simp [hbb] at h35_ ⊢
    all_goals (first | rfl | (subst h35_; rfl) | simp_all)
  refine RW_fin ?_; intro w50 E51 hP52
  obtain ⟨⟨⟨⟨⟨⟨⟨⟨⟨⟨⟨⟨⟨⟨⟨⟨⟨⟨⟨⟨⟨⟨⟨⟨⟨⟨⟨⟨⟨⟨⟨⟨⟨⟨-, -⟩, -⟩, -⟩, -⟩, -⟩, -⟩, -⟩, -⟩, -⟩, -⟩, -⟩, -⟩, -⟩, -⟩, -⟩, -⟩, -⟩, -⟩, -⟩, -⟩, -⟩, -⟩, -⟩, -⟩, -⟩, -⟩, -⟩, -⟩, -⟩, -⟩, -⟩, -⟩, -⟩, q53⟩ := hP52
  have X54 := Ext.gr X14 E51
  have q53 : v49 = (Bo β7) := q53
  obtain rfl := q53
  show wpList _ _ _ _ (fr [(.agg #[(Fl r1), (Fl r3), (Fl r5)]), (Pt b8 0), (Bo false), v16, v17, v18, v19, v20, v21, v22, v23, v24, v25, v26, v27, v28, v29, v30, v31, v32, v33, v34, v35, v36, v37, v38, v39, v40, v41, v42, v43, v44, v45, v46, v47, v48, (Bo β7)]) _
  refine q_is rfl rfl (does_assign (u := (Bo β7)) (ev rfl)) (by dsimp only [List.set]; try rfl) ?_
  refine wpList_nil (hK15 _ _ ?_)
  refine wp_ret ?_
  refine ret_val (v := (Bo β7)) (res_T rfl (slot rfl)) X54 ?_
  have x55 : (someV A_v) = β7 := by first | with_reducible rfl | (simp only [someV, numF, h2, h4, h6, hβ1, hβ2, hβ3, hβ4, hβ5, hβ6, hβ7]; done) | (simp [someV, numF, h2, h4, h6, hβ1, hβ2, hβ3, hβ4, hβ5, hβ6, hβ7]; done) | rfl
  exact (by first | rfl | rw [x55])

/- spec.l09Is -/
theorem c_spec_l09Is (c_b : Nat) (c_o : Nat) (c : List Value) (A_c : CamT) (w : World) (hc_c : Cells w c_b c_o c) (hv_c : RCamT w A_c c) : Gives Try.prog 64 #[(Pt c_b c_o)] w (fun v w' => v = (Bo (isCam A_c))) := by
  obtain ⟨r1, r3, r5, r7, r9, r11, r13, rfl, h2, h4, h6, h8, h10, h12, h14⟩ := hv_c
  refine enter [(Pt c_b c_o), Ud, Ud, Ud, Ud, Ud, Ud, Ud, Ud, Ud, Ud, Ud, Ud, Ud, Ud, Ud, Ud, Ud, Ud, Ud, Ud, Ud, Ud, Ud, Ud, Ud, Ud, Ud, Ud, Ud, Ud, Ud, Ud, Ud, Ud, Ud, Ud, Ud, Ud, Ud, Ud, Ud, Ud, Ud, Ud, Ud, Ud, Ud, Ud, Ud, Ud, Ud, Ud, Ud, Ud, Ud] Try.func64 rfl Try.ntmps64 rfl ?_
  refine wp_seq_k fun K15 hK15 => ?_
  refine wp_region_lit ?_
  refine q_is rfl rfl (does_assign (u := (Bo false)) (ev rfl)) (by dsimp only [List.set]; try rfl) ?_
  refine wpList_nil (hK15 _ _ ?_)
  refine wp_seq_k fun K16 hK16 => ?_
  refine wp_seq_k fun K17 hK17 => ?_
  obtain ⟨β1, hβ1⟩ : ∃ b : Bool, b = ((!(inI A_c.width 1 12)) || (!(inI A_c.height 1 12))) := ⟨_, rfl⟩
  obtain ⟨β2, hβ2⟩ : ∃ b : Bool, b = (finF (cf .f32 r13) && posF (cf .f32 r13)) := ⟨_, rfl⟩
  obtain ⟨β3, hβ3⟩ : ∃ b : Bool, b = ((β1 || (!β2)) || (!(finV A_c.frm))) := ⟨_, rfl⟩
  refine region_text (
    [Fact.pure [] (fun v => v = (Pt c_b c_o)),
    Fact.pure [6] (fun v => v = (Pt c_b c_o)),
    Fact.pure [7] (fun v => v = (Pt c_b (c_o + 7))),
    Fact.pure [8] (fun v => v = (Iv A_c.width)),
    Fact.pure [9] (fun v => v = (Bo (inI A_c.width 1 12))),
    Fact.pure [10] (fun v => v = (Bo (!(inI A_c.width 1 12)))),
    Fact.pure [11] (fun v => v = (Bo (!(inI A_c.width 1 12)))),
    Fact.pure [12] (fun v => (!(inI A_c.width 1 12)) = false → v = (Pt c_b c_o)),
    Fact.pure [13, 12] (fun v => (!(inI A_c.width 1 12)) = false → v = (Pt c_b c_o)),
    Fact.pure [14, 12] (fun v => (!(inI A_c.width 1 12)) = false → v = (Pt c_b (c_o + 8))),
    Fact.pure [15, 12] (fun v => (!(inI A_c.width 1 12)) = false → v = (Iv A_c.height)),
    Fact.pure [16, 12] (fun v => (!(inI A_c.width 1 12)) = false → v = (Bo (inI A_c.height 1 12))),
    Fact.pure [17, 12] (fun v => (!(inI A_c.width 1 12)) = false → v = (Bo (!(inI A_c.height 1 12)))),
    Fact.pure [12, 18] (fun v => v = (Bo β1)),
    Fact.pure [19] (fun v => v = (Bo β1)),
    Fact.pure [20] (fun v => β1 = false → v = (Pt c_b c_o)),
    Fact.pure [21, 20] (fun v => β1 = false → v = (Pt c_b c_o)),
    Fact.pure [22, 20] (fun v => β1 = false → v = (Pt c_b (c_o + 6))),
    Fact.pure [23, 20] (fun v => β1 = false → v = (Fl r13)),
    Fact.pure [24, 20] (fun v => β1 = false → v = (Bo β2)),
    Fact.pure [25, 20] (fun v => β1 = false → v = (Bo (!β2))),
    Fact.pure [20, 26] (fun v => v = (Bo (β1 || (!β2)))),
    Fact.pure [27] (fun v => v = (Bo (β1 || (!β2)))),
    Fact.pure [28] (fun v => (β1 || (!β2)) = false → v = (Pt c_b c_o)),
    Fact.pure [29, 28] (fun v => (β1 || (!β2)) = false → v = (Pt c_b c_o)),
    Fact.pure [30, 28] (fun v => (β1 || (!β2)) = false → v = (Pt c_b c_o)),
    Fact.pure [31, 28] (fun v => (β1 || (!β2)) = false → v = (.agg #[(Fl r1), (Fl r3), (Fl r5)])),
    Fact.pure [32, 28] (fun v => (β1 || (!β2)) = false → v = (Bo (finV A_c.frm))),
    Fact.pure [33, 28] (fun v => (β1 || (!β2)) = false → v = (Bo (!(finV A_c.frm)))),
    Fact.pure [28, 34] (fun v => v = (Bo β3)),
    Fact.pure [35] (fun v => v = (Bo β3)),
    Fact.pure [36] (fun v => β3 = false → v = (Pt c_b c_o)),
    Fact.pure [37, 36] (fun v => β3 = false → v = (Pt c_b c_o)),
    Fact.pure [38, 36] (fun v => β3 = false → v = (Pt c_b (c_o + 3))),
    Fact.pure [39, 36] (fun v => β3 = false → v = (.agg #[(Fl r7), (Fl r9), (Fl r11)])),
    Fact.pure [40, 36] (fun v => β3 = false → v = (Bo (finV A_c.to))),
    Fact.pure [41, 36] (fun v => β3 = false → v = (Bo (!(finV A_c.to)))),
    Fact.pure [36, 42] (fun v => v = (Bo (β3 || (!(finV A_c.to)))))]) (by simp [Fact.pure, Fact.mem]) ?_
  refine RW_d _ rfl (fun v => by dsimp only [List.set]; try rfl) (fun u hu hF => ?_) (fun v18 => ?_)
  · clear hF
    refine doesG_un rfl ?_
    refine (does_move (u := (Pt c_b c_o)) (ev rfl)).mono ?_; rintro _ _ ⟨rfl, rfl⟩
    exact ⟨rfl, Ext.refl _⟩
  refine RW_d _ rfl (fun v => by dsimp only [List.set]; try rfl) (fun u hu hF => ?_) (fun v19 => ?_)
  · have h6_ : v18 = (Pt c_b c_o) := hF.1
    clear hF
    refine doesG_un rfl ?_
    obtain rfl := h6_
    refine (does_nilCheck (ev rfl)).mono ?_; rintro _ _ ⟨rfl, rfl⟩
    exact ⟨rfl, Ext.refl _⟩
  refine RW_d _ rfl (fun v => by dsimp only [List.set]; try rfl) (fun u hu hF => ?_) (fun v20 => ?_)
  · have h7_ : v19 = (Pt c_b c_o) := hF.1
    clear hF
    refine doesG_un rfl ?_
    obtain rfl := h7_
    refine (does_fieldAddr (ev rfl) fa48_3).mono ?_; rintro _ _ ⟨rfl, rfl⟩
    exact ⟨rfl, Ext.refl _⟩
  refine RW_d _ rfl (fun v => by dsimp only [List.set]; try rfl) (fun u hu hF => ?_) (fun v21 => ?_)
  · have h8_ : v20 = (Pt c_b (c_o + 7)) := hF.1
    clear hF
    refine doesG_un rfl ?_
    obtain rfl := h8_
    refine (does_load (u := (Iv A_c.width)) (ev rfl) Try.isAgg2 (Cells.at (hc_c.ext hu) 7 rfl)).mono ?_; rintro _ _ ⟨rfl, rfl⟩
    exact ⟨rfl, Ext.refl _⟩
  refine RW_d _ rfl (fun v => by dsimp only [List.set]; try rfl) (fun u hu hF => ?_) (fun v22 => ?_)
  · have h9_ : v21 = (Iv A_c.width) := hF.1
    clear hF
    refine doesG_un rfl ?_
    obtain rfl := h9_
    refine (does_call (args := #[(Iv A_c.width), (Iv 1), (Iv 12)]) cal74 (evs rfl) (c_spec_l00In A_c.width 1 12 _)).mono ?_; rintro v u' ⟨hx, hv⟩
    exact ⟨hv, hx⟩
  refine RW_d _ rfl (fun v => by dsimp only [List.set]; try rfl) (fun u hu hF => ?_) (fun v23 => ?_)
  · have h10_ : v22 = (Bo (inI A_c.width 1 12)) := hF.1
    clear hF
    refine doesG_un rfl ?_
    obtain rfl := h10_
    refine (does_not (ev rfl)).mono ?_; rintro _ _ ⟨rfl, rfl⟩
    exact ⟨rfl, Ext.refl _⟩
  refine RW_d _ rfl (fun v => by dsimp only [List.set]; try rfl) (fun u hu hF => ?_) (fun v24 => ?_)
  · have h11_ : v23 = (Bo (!(inI A_c.width 1 12))) := hF.1
    clear hF
    refine doesG_un rfl ?_
    obtain rfl := h11_
    refine (does_move (u := (Bo (!(inI A_c.width 1 12)))) (ev rfl)).mono ?_; rintro _ _ ⟨rfl, rfl⟩
    exact ⟨rfl, Ext.refl _⟩
  refine RW_d _ rfl (fun v => by dsimp only [List.set]; try rfl) (fun u hu hF => ?_) (fun v25 => ?_)
  · have h12_ : v24 = (Bo (!(inI A_c.width 1 12))) := hF.1
    clear hF
    obtain rfl := h12_
    refine doesG_g (b := (!(inI A_c.width 1 12))) rfl (yld rfl rfl) (fun hg1 => ?_) (fun hc => ⟨fun hg1 => absurd hg1 hc, Ext.refl _⟩)
    refine (does_move (u := (Pt c_b c_o)) (ev rfl)).mono ?_; rintro _ _ ⟨rfl, rfl⟩
    exact ⟨fun _ => rfl, Ext.refl _⟩
  refine RW_d _ rfl (fun v => by dsimp only [List.set]; try rfl) (fun u hu hF => ?_) (fun v26 => ?_)
  · have h13_ : (!(inI A_c.width 1 12)) = false → v25 = (Pt c_b c_o) := hF.1
    have h12_ : v24 = (Bo (!(inI A_c.width 1 12))) := hF.2.1
    clear hF
    obtain rfl := h12_
    refine doesG_g (b := (!(inI A_c.width 1 12))) rfl (yld rfl rfl) (fun hg1 => ?_) (fun hc => ⟨fun hg1 => absurd hg1 hc, Ext.refl _⟩)
    obtain rfl := h13_ hg1
    refine (does_nilCheck (ev rfl)).mono ?_; rintro _ _ ⟨rfl, rfl⟩
    exact ⟨fun _ => rfl, Ext.refl _⟩
  refine RW_d _ rfl (fun v => by dsimp only [List.set]; try rfl) (fun u hu hF => ?_) (fun v27 => ?_)
  · have h14_ : (!(inI A_c.width 1 12)) = false → v26 = (Pt c_b c_o) := hF.1
    have h12_ : v24 = (Bo (!(inI A_c.width 1 12))) := hF.2.1
    clear hF
    obtain rfl := h12_
    refine doesG_g (b := (!(inI A_c.width 1 12))) rfl (yld rfl rfl) (fun hg1 => ?_) (fun hc => ⟨fun hg1 => absurd hg1 hc, Ext.refl _⟩)
    obtain rfl := h14_ hg1
    refine (does_fieldAddr (ev rfl) fa48_4).mono ?_; rintro _ _ ⟨rfl, rfl⟩
    exact ⟨fun _ => rfl, Ext.refl _⟩
  refine RW_d _ rfl (fun v => by dsimp only [List.set]; try rfl) (fun u hu hF => ?_) (fun v28 => ?_)
  · have h15_ : (!(inI A_c.width 1 12)) = false → v27 = (Pt c_b (c_o + 8)) := hF.1
    have h12_ : v24 = (Bo (!(inI A_c.width 1 12))) := hF.2.1
    clear hF
    obtain rfl := h12_
    refine doesG_g (b := (!(inI A_c.width 1 12))) rfl (yld rfl rfl) (fun hg1 => ?_) (fun hc => ⟨fun hg1 => absurd hg1 hc, Ext.refl _⟩)
    obtain rfl := h15_ hg1
    refine (does_load (u := (Iv A_c.height)) (ev rfl) Try.isAgg2 (Cells.at (hc_c.ext hu) 8 rfl)).mono ?_; rintro _ _ ⟨rfl, rfl⟩
    exact ⟨fun _ => rfl, Ext.refl _⟩
  refine RW_d _ rfl (fun v => by dsimp only [List.set]; try rfl) (fun u hu hF => ?_) (fun v29 => ?_)
  · have h16_ : (!(inI A_c.width 1 12)) = false → v28 = (Iv A_c.height) := hF.1
    have h12_ : v24 = (Bo (!(inI A_c.width 1 12))) := hF.2.1
    clear hF
    obtain rfl := h12_
    refine doesG_g (b := (!(inI A_c.width 1 12))) rfl (yld rfl rfl) (fun hg1 => ?_) (fun hc => ⟨fun hg1 => absurd hg1 hc, Ext.refl _⟩)
    obtain rfl := h16_ hg1
    refine (does_call (args := #[(Iv A_c.height), (Iv 1), (Iv 12)]) cal74 (evs rfl) (c_spec_l00In A_c.height 1 12 _)).mono ?_; rintro v u' ⟨hx, hv⟩
    exact ⟨fun _ => hv, hx⟩
  refine RW_d _ rfl (fun v => by dsimp only [List.set]; try rfl) (fun u hu hF => ?_) (fun v30 => ?_)
  · have h17_ : (!(inI A_c.width 1 12)) = false → v29 = (Bo (inI A_c.height 1 12)) := hF.1
    have h12_ : v24 = (Bo (!(inI A_c.width 1 12))) := hF.2.1
    clear hF
    obtain rfl := h12_
    refine doesG_g (b := (!(inI A_c.width 1 12))) rfl (yld rfl rfl) (fun hg1 => ?_) (fun hc => ⟨fun hg1 => absurd hg1 hc, Ext.refl _⟩)
    obtain rfl := h17_ hg1
    refine (does_not (ev rfl)).mono ?_; rintro _ _ ⟨rfl, rfl⟩
    exact ⟨fun _ => rfl, Ext.refl _⟩
  refine RW_d _ rfl (fun v => by dsimp only [List.set]; try rfl) (fun u hu hF => ?_) (fun v31 => ?_)
  · have h12_ : v24 = (Bo (!(inI A_c.width 1 12))) := hF.1
    have h18_ : (!(inI A_c.width 1 12)) = false → v30 = (Bo (!(inI A_c.height 1 12))) := hF.2.1
    clear hF
    refine doesG_un rfl ?_
    skip
    obtain rfl := h12_
    refine (does_pick (b := (!(inI A_c.width 1 12))) (ev rfl) (ev rfl) (ev rfl)).mono ?_; rintro _ _ ⟨rfl, rfl⟩; refine ⟨?_, Ext.refl _⟩; rw [hβ1]; skip
    cases hbb : (!(inI A_c.width 1 12)) <;> simp [hbb] at h18_ ⊢
    all_goals (first | rfl | (subst h18_; rfl) | simp_all)
  refine RW_d _ rfl (fun v => by dsimp only [List.set]; try rfl) (fun u hu hF => ?_) (fun v32 => ?_)
  · have h19_ : v31 = (Bo β1) := hF.1
    clear hF
    refine doesG_un rfl ?_
    obtain rfl := h19_
    refine (does_move (u := (Bo β1)) (ev rfl)).mono ?_; rintro _ _ ⟨rfl, rfl⟩
    exact ⟨rfl, Ext.refl _⟩
  refine RW_d _ rfl (fun v => by dsimp only [List.set]; try rfl) (fun u hu hF => ?_) (fun v33 => ?_)
  · have h20_ : v32 = (Bo β1) := hF.1
    clear hF
    obtain rfl := h20_
    refine doesG_g (b := β1) rfl (yld rfl rfl) (fun hg1 => ?_) (fun hc => ⟨fun hg1 => absurd hg1 hc, Ext.refl _⟩)
    refine (does_move (u := (Pt c_b c_o)) (ev rfl)).mono ?_; rintro _ _ ⟨rfl, rfl⟩
    exact ⟨fun _ => rfl, Ext.refl _⟩
  refine RW_d _ rfl (fun v => by dsimp only [List.set]; try rfl) (fun u hu hF => ?_) (fun v34 => ?_)
  · have h21_ : β1 = false → v33 = (Pt c_b c_o) := hF.1
    have h20_ : v32 = (Bo β1) := hF.2.1
    clear hF
    obtain rfl := h20_
    refine doesG_g (b := β1) rfl (yld rfl rfl) (fun hg1 => ?_) (fun hc => ⟨fun hg1 => absurd hg1 hc, Ext.refl _⟩)
    obtain rfl := h21_ hg1
    refine (does_nilCheck (ev rfl)).mono ?_; rintro _ _ ⟨rfl, rfl⟩
    exact ⟨fun _ => rfl, Ext.refl _⟩
  refine RW_d _ rfl (fun v => by dsimp only [List.set]; try rfl) (fun u hu hF => ?_) (fun v35 => ?_)
  · have h22_ : β1 = false → v34 = (Pt c_b c_o) := hF.1
    have h20_ : v32 = (Bo β1) := hF.2.1
    clear hF
    obtain rfl := h20_
    refine doesG_g (b := β1) rfl (yld rfl rfl) (fun hg1 => ?_) (fun hc => ⟨fun hg1 => absurd hg1 hc, Ext.refl _⟩)
    obtain rfl := h22_ hg1
    refine (does_fieldAddr (ev rfl) fa48_2).mono ?_; rintro _ _ ⟨rfl, rfl⟩
    exact ⟨fun _ => rfl, Ext.refl _⟩
  refine RW_d _ rfl (fun v => by dsimp only [List.set]; try rfl) (fun u hu hF => ?_) (fun v36 => ?_)
  · have h23_ : β1 = false → v35 = (Pt c_b (c_o + 6)) := hF.1
    have h20_ : v32 = (Bo β1) := hF.2.1
    clear hF
    obtain rfl := h20_
    refine doesG_g (b := β1) rfl (yld rfl rfl) (fun hg1 => ?_) (fun hc => ⟨fun hg1 => absurd hg1 hc, Ext.refl _⟩)
    obtain rfl := h23_ hg1
    refine (does_load (u := (Fl r13)) (ev rfl) Try.isAgg24 (Cells.at (hc_c.ext hu) 6 rfl)).mono ?_; rintro _ _ ⟨rfl, rfl⟩
    exact ⟨fun _ => rfl, Ext.refl _⟩
  refine RW_d _ rfl (fun v => by dsimp only [List.set]; try rfl) (fun u hu hF => ?_) (fun v37 => ?_)
  · have h24_ : β1 = false → v36 = (Fl r13) := hF.1
    have h20_ : v32 = (Bo β1) := hF.2.1
    clear hF
    obtain rfl := h20_
    refine doesG_g (b := β1) rfl (yld rfl rfl) (fun hg1 => ?_) (fun hc => ⟨fun hg1 => absurd hg1 hc, Ext.refl _⟩)
    obtain rfl := h24_ hg1
    refine (does_call (args := #[(Fl r13)]) cal101 (evs rfl) (c_spec_l03Positive r13 _)).mono ?_; rintro v u' ⟨hx, hv⟩
    exact ⟨fun _ => hv.trans (by simp only [hβ2]), hx⟩
  refine RW_d _ rfl (fun v => by dsimp only [List.set]; try rfl) (fun u hu hF => ?_) (fun v38 => ?_)
  · have h25_ : β1 = false → v37 = (Bo β2) := hF.1
    have h20_ : v32 = (Bo β1) := hF.2.1
    clear hF
    obtain rfl := h20_
    refine doesG_g (b := β1) rfl (yld rfl rfl) (fun hg1 => ?_) (fun hc => ⟨fun hg1 => absurd hg1 hc, Ext.refl _⟩)
    obtain rfl := h25_ hg1
    refine (does_not (ev rfl)).mono ?_; rintro _ _ ⟨rfl, rfl⟩
    exact ⟨fun _ => rfl, Ext.refl _⟩
  refine RW_d _ rfl (fun v => by dsimp only [List.set]; try rfl) (fun u hu hF => ?_) (fun v39 => ?_)
  · have h20_ : v32 = (Bo β1) := hF.1
    have h26_ : β1 = false → v38 = (Bo (!β2)) := hF.2.1
    clear hF
    refine doesG_un rfl ?_
    skip
    obtain rfl := h20_
    refine (does_pick (b := β1) (ev rfl) (ev rfl) (ev rfl)).mono ?_; rintro _ _ ⟨rfl, rfl⟩; refine ⟨?_, Ext.refl _⟩; skip
    cases hbb : β1 <;> simp [hbb] at h26_ ⊢
    all_goals (first | rfl | (subst h26_; rfl) | simp_all)
  refine RW_d _ rfl (fun v => by dsimp only [List.set]; try rfl) (fun u hu hF => ?_) (fun v40 => ?_)
  · have h27_ : v39 = (Bo (β1 || (!β2))) := hF.1
    clear hF
    refine doesG_un rfl ?_
    obtain rfl := h27_
    refine (does_move (u := (Bo (β1 || (!β2)))) (ev rfl)).mono ?_; rintro _ _ ⟨rfl, rfl⟩
    exact ⟨rfl, Ext.refl _⟩
  refine RW_d _ rfl (fun v => by dsimp only [List.set]; try rfl) (fun u hu hF => ?_) (fun v41 => ?_)
  · have h28_ : v40 = (Bo (β1 || (!β2))) := hF.1
    clear hF
    obtain rfl := h28_
    refine doesG_g (b := (β1 || (!β2))) rfl (yld rfl rfl) (fun hg1 => ?_) (fun hc => ⟨fun hg1 => absurd hg1 hc, Ext.refl _⟩)
    refine (does_move (u := (Pt c_b c_o)) (ev rfl)).mono ?_; rintro _ _ ⟨rfl, rfl⟩
    exact ⟨fun _ => rfl, Ext.refl _⟩
  refine RW_d _ rfl (fun v => by dsimp only [List.set]; try rfl) (fun u hu hF => ?_) (fun v42 => ?_)
  · have h29_ : (β1 || (!β2)) = false → v41 = (Pt c_b c_o) := hF.1
    have h28_ : v40 = (Bo (β1 || (!β2))) := hF.2.1
    clear hF
    obtain rfl := h28_
    refine doesG_g (b := (β1 || (!β2))) rfl (yld rfl rfl) (fun hg1 => ?_) (fun hc => ⟨fun hg1 => absurd hg1 hc, Ext.refl _⟩)
    obtain rfl := h29_ hg1
    refine (does_nilCheck (ev rfl)).mono ?_; rintro _ _ ⟨rfl, rfl⟩
    exact ⟨fun _ => rfl, Ext.refl _⟩
  refine RW_d _ rfl (fun v => by dsimp only [List.set]; try rfl) (fun u hu hF => ?_) (fun v43 => ?_)
  · have h30_ : (β1 || (!β2)) = false → v42 = (Pt c_b c_o) := hF.1
    have h28_ : v40 = (Bo (β1 || (!β2))) := hF.2.1
    clear hF
    obtain rfl := h28_
    refine doesG_g (b := (β1 || (!β2))) rfl (yld rfl rfl) (fun hg1 => ?_) (fun hc => ⟨fun hg1 => absurd hg1 hc, Ext.refl _⟩)
    obtain rfl := h30_ hg1
    refine (does_fieldAddr (ev rfl) fa48_0).mono ?_; rintro _ _ ⟨rfl, rfl⟩
    exact ⟨fun _ => rfl, Ext.refl _⟩
  refine RW_d _ rfl (fun v => by dsimp only [List.set]; try rfl) (fun u hu hF => ?_) (fun v44 => ?_)
  · have h31_ : (β1 || (!β2)) = false → v43 = (Pt c_b c_o) := hF.1
    have h28_ : v40 = (Bo (β1 || (!β2))) := hF.2.1
    clear hF
    obtain rfl := h28_
    refine doesG_g (b := (β1 || (!β2))) rfl (yld rfl rfl) (fun hg1 => ?_) (fun hc => ⟨fun hg1 => absurd hg1 hc, Ext.refl _⟩)
    obtain rfl := h31_ hg1
    refine (does_loadAgg (cs := [(Fl r1), (Fl r3), (Fl r5)]) (ev rfl) Try.isAgg26 Try.sizeOf26 (Cells.sub (hc_c.ext hu) 0 3) rfl).mono ?_; rintro _ _ ⟨rfl, rfl⟩
    exact ⟨fun _ => rfl, Ext.refl _⟩
  refine RW_d _ rfl (fun v => by dsimp only [List.set]; try rfl) (fun u hu hF => ?_) (fun v45 => ?_)
  · have h32_ : (β1 || (!β2)) = false → v44 = (.agg #[(Fl r1), (Fl r3), (Fl r5)]) := hF.1
    have h28_ : v40 = (Bo (β1 || (!β2))) := hF.2.1
    clear hF
    obtain rfl := h28_
    refine doesG_g (b := (β1 || (!β2))) rfl (yld rfl rfl) (fun hg1 => ?_) (fun hc => ⟨fun hg1 => absurd hg1 hc, Ext.refl _⟩)
    obtain rfl := h32_ hg1
    refine (does_call (args := #[(.agg #[(Fl r1), (Fl r3), (Fl r5)])]) cal52 (evs rfl) (c_spec_l01VFinite [(Fl r1), (Fl r3), (Fl r5)] A_c.frm _ ⟨r1, r3, r5, rfl, h2, h4, h6⟩)).mono ?_; rintro v u' ⟨hx, hv⟩
    exact ⟨fun _ => hv, hx⟩
  refine RW_d _ rfl (fun v => by dsimp only [List.set]; try rfl) (fun u hu hF => ?_) (fun v46 => ?_)
  · have h33_ : (β1 || (!β2)) = false → v45 = (Bo (finV A_c.frm)) := hF.1
    have h28_ : v40 = (Bo (β1 || (!β2))) := hF.2.1
    clear hF
    obtain rfl := h28_
    refine doesG_g (b := (β1 || (!β2))) rfl (yld rfl rfl) (fun hg1 => ?_) (fun hc => ⟨fun hg1 => absurd hg1 hc, Ext.refl _⟩)
    obtain rfl := h33_ hg1
    refine (does_not (ev rfl)).mono ?_; rintro _ _ ⟨rfl, rfl⟩
    exact ⟨fun _ => rfl, Ext.refl _⟩
  refine RW_d _ rfl (fun v => by dsimp only [List.set]; try rfl) (fun u hu hF => ?_) (fun v47 => ?_)
  · have h28_ : v40 = (Bo (β1 || (!β2))) := hF.1
    have h34_ : (β1 || (!β2)) = false → v46 = (Bo (!(finV A_c.frm))) := hF.2.1
    clear hF
    refine doesG_un rfl ?_
    skip
    obtain rfl := h28_
    refine (does_pick (b := (β1 || (!β2))) (ev rfl) (ev rfl) (ev rfl)).mono ?_; rintro _ _ ⟨rfl, rfl⟩; refine ⟨?_, Ext.refl _⟩; rw [hβ3]; skip
    cases hbb : (β1 || (!β2)) <;> simp [hbb] at h34_ ⊢
    all_goals (first | rfl | (subst h34_; rfl) | simp_all)
  refine RW_d _ rfl (fun v => by dsimp only [List.set]; try rfl) (fun u hu hF => ?_) (fun v48 => ?_)
  · have h35_ : v47 = (Bo β3) := hF.1
    clear hF
    refine doesG_un rfl ?_
    obtain rfl := h35_
    refine (does_move (u := (Bo β3)) (ev rfl)).mono ?_; rintro _ _ ⟨rfl, rfl⟩
    exact ⟨rfl, Ext.refl _⟩
  refine RW_d _ rfl (fun v => by dsimp only [List.set]; try rfl) (fun u hu hF => ?_) (fun v49 => ?_)
  · have h36_ : v48 = (Bo β3) := hF.1
    clear hF
    obtain rfl := h36_
    refine doesG_g (b := β3) rfl (yld rfl rfl) (fun hg1 => ?_) (fun hc => ⟨fun hg1 => absurd hg1 hc, Ext.refl _⟩)
    refine (does_move (u := (Pt c_b c_o)) (ev rfl)).mono ?_; rintro _ _ ⟨rfl, rfl⟩
    exact ⟨fun _ => rfl, Ext.refl _⟩
  refine RW_d _ rfl (fun v => by dsimp only [List.set]; try rfl) (fun u hu hF => ?_) (fun v50 => ?_)
  · have h37_ : β3 = false → v49 = (Pt c_b c_o) := hF.1
    have h36_ : v48 = (Bo β3) := hF.2.1
    clear hF
    obtain rfl := h36_
    refine doesG_g (b := β3) rfl (yld rfl rfl) (fun hg1 => ?_) (fun hc => ⟨fun hg1 => absurd hg1 hc, Ext.refl _⟩)
    obtain rfl := h37_ hg1
    refine (does_nilCheck (ev rfl)).mono ?_; rintro _ _ ⟨rfl, rfl⟩
    exact ⟨fun _ => rfl, Ext.refl _⟩
  refine RW_d _ rfl (fun v => by dsimp only [List.set]; try rfl) (fun u hu hF => ?_) (fun v51 => ?_)
  · have h38_ : β3 = false → v50 = (Pt c_b c_o) := hF.1
    have h36_ : v48 = (Bo β3) := hF.2.1
    clear hF
    obtain rfl := h36_
    refine doesG_g (b := β3) rfl (yld rfl rfl) (fun hg1 => ?_) (fun hc => ⟨fun hg1 => absurd hg1 hc, Ext.refl _⟩)
    obtain rfl := h38_ hg1
    refine (does_fieldAddr (ev rfl) fa48_1).mono ?_; rintro _ _ ⟨rfl, rfl⟩
    exact ⟨fun _ => rfl, Ext.refl _⟩
  refine RW_d _ rfl (fun v => by dsimp only [List.set]; try rfl) (fun u hu hF => ?_) (fun v52 => ?_)
  · have h39_ : β3 = false → v51 = (Pt c_b (c_o + 3)) := hF.1
    have h36_ : v48 = (Bo β3) := hF.2.1
    clear hF
    obtain rfl := h36_
    refine doesG_g (b := β3) rfl (yld rfl rfl) (fun hg1 => ?_) (fun hc => ⟨fun hg1 => absurd hg1 hc, Ext.refl _⟩)
    obtain rfl := h39_ hg1
    refine (does_loadAgg (cs := [(Fl r7), (Fl r9), (Fl r11)]) (ev rfl) Try.isAgg26 Try.sizeOf26 (Cells.sub (hc_c.ext hu) 3 3) rfl).mono ?_; rintro _ _ ⟨rfl, rfl⟩
    exact ⟨fun _ => rfl, Ext.refl _⟩
  refine RW_d _ rfl (fun v => by dsimp only [List.set]; try rfl) (fun u hu hF => ?_) (fun v53 => ?_)
  · have h40_ : β3 = false → v52 = (.agg #[(Fl r7), (Fl r9), (Fl r11)]) := hF.1
    have h36_ : v48 = (Bo β3) := hF.2.1
    clear hF
    obtain rfl := h36_
    refine doesG_g (b := β3) rfl (yld rfl rfl) (fun hg1 => ?_) (fun hc => ⟨fun hg1 => absurd hg1 hc, Ext.refl _⟩)
    obtain rfl := h40_ hg1
    refine (does_call (args := #[(.agg #[(Fl r7), (Fl r9), (Fl r11)])]) cal52 (evs rfl) (c_spec_l01VFinite [(Fl r7), (Fl r9), (Fl r11)] A_c.to _ ⟨r7, r9, r11, rfl, h8, h10, h12⟩)).mono ?_; rintro v u' ⟨hx, hv⟩
    exact ⟨fun _ => hv, hx⟩
  refine RW_d _ rfl (fun v => by dsimp only [List.set]; try rfl) (fun u hu hF => ?_) (fun v54 => ?_)
  · have h41_ : β3 = false → v53 = (Bo (finV A_c.to)) := hF.1
    have h36_ : v48 = (Bo β3) := hF.2.1
    clear hF
    obtain rfl := h36_
    refine doesG_g (b := β3) rfl (yld rfl rfl) (fun hg1 => ?_) (fun hc => ⟨fun hg1 => absurd hg1 hc, Ext.refl _⟩)
    obtain rfl := h41_ hg1
    refine (does_not (ev rfl)).mono ?_; rintro _ _ ⟨rfl, rfl⟩
    exact ⟨fun _ => rfl, Ext.refl _⟩
  refine RW_d _ rfl (fun v => by dsimp only [List.set]; try rfl) (fun u hu hF => ?_) (fun v55 => ?_)
  · have h36_ : v48 = (Bo β3) := hF.1
    have h42_ : β3 = false → v54 = (Bo (!(finV A_c.to))) := hF.2.1
    clear hF
    refine doesG_un rfl ?_
    skip
    obtain rfl := h36_
    refine (does_pick (b := β3) (ev rfl) (ev rfl) (ev rfl)).mono ?_; rintro _ _ ⟨rfl, rfl⟩; refine ⟨?_, Ext.refl _⟩; skip
    cases hbb : β3 <;> simp [hbb] at h42_ ⊢
    all_goals (first | rfl | (subst h42_; rfl) | simp_all)
  refine RW_fin ?_; intro w56 E57 hP58
  obtain ⟨⟨⟨⟨⟨⟨⟨⟨⟨⟨⟨⟨⟨⟨⟨⟨⟨⟨⟨⟨⟨⟨⟨⟨⟨⟨⟨⟨⟨⟨⟨⟨⟨⟨⟨⟨⟨⟨-, -⟩, -⟩, -⟩, -⟩, -⟩, -⟩, -⟩, -⟩, -⟩, -⟩, -⟩, -⟩, -⟩, -⟩, -⟩, -⟩, -⟩, -⟩, -⟩, -⟩, -⟩, -⟩, -⟩, -⟩, -⟩, -⟩, -⟩, -⟩, -⟩, -⟩, -⟩, -⟩, -⟩, -⟩, -⟩, -⟩, -⟩, q59⟩ := hP58
  have X60 := Ext.gr (Ext.refl w) E57
  have q59 : v55 = (Bo (β3 || (!(finV A_c.to)))) := q59
  obtain rfl := q59
  show wpList _ _ _ _ (fr [(Pt c_b c_o), Ud, (Bo false), Ud, Ud, Ud, v18, v19, v20, v21, v22, v23, v24, v25, v26, v27, v28, v29, v30, v31, v32, v33, v34, v35, v36, v37, v38, v39, v40, v41, v42, v43, v44, v45, v46, v47, v48, v49, v50, v51, v52, v53, v54, (Bo (β3 || (!(finV A_c.to)))), Ud, Ud, Ud, Ud, Ud, Ud, Ud, Ud, Ud, Ud, Ud, Ud]) _
  refine wpList_nil (hK17 _ _ ?_)
  refine wp_cond_split (t := β3 || (!(finV A_c.to))) (ev rfl) (fun c61 => ?_) (fun c61 => ?_)
  · have c61' := c61
    (try simp only [hβ1, hβ2, hβ3] at c61')
    (try simp only [icmp, Bool.and_eq_true, Bool.or_eq_true, Bool.and_eq_false_iff, Bool.or_eq_false_iff, Bool.not_eq_true', Bool.not_eq_false', decide_eq_true_eq, decide_eq_false_iff_not, beq_iff_eq, bne_iff_ne, beq_eq_false_iff_ne, bne_eq_false_iff_eq] at c61')
    refine wp_seq_k fun K62 hK62 => ?_
    refine wp_region_lit ?_
    refine q_is rfl rfl (does_assign (u := (Bo false)) (ev rfl)) (by dsimp only [List.set]; try rfl) ?_
    refine wpList_nil (hK62 _ _ ?_)
    refine wp_ret ?_
    dsimp only [Exit.then, Exit.inBlock]
    refine ret_val (v := (Bo false)) (res_T rfl (slot rfl)) X60 ?_
    try simp only [h2, h4, h6, h8, h10, h12, h14, hβ1, hβ2, hβ3] at c61
    have x63 : (isCam A_c) = false := by first | exact isCam_f (by assumption) | (rw [isCam_t (by assumption)]; simp only [h2, h4, h6, h8, h10, h12, h14, hβ1, hβ2, hβ3, c61]; done)
    exact (by first | rfl | rw [x63])
  have c61' := c61
  (try simp only [hβ1, hβ2, hβ3] at c61')
  (try simp only [icmp, Bool.and_eq_true, Bool.or_eq_true, Bool.and_eq_false_iff, Bool.or_eq_false_iff, Bool.not_eq_true', Bool.not_eq_false', decide_eq_true_eq, decide_eq_false_iff_not, beq_iff_eq, bne_iff_ne, beq_eq_false_iff_ne, bne_eq_false_iff_eq] at c61')
  refine wp_skip (hK16 _ _ ?_)
  refine wp_seq_k fun K64 hK64 => ?_
  refine wp_region_lit ?_
  refine q_is rfl rfl (does_move (u := (Pt c_b c_o)) (ev rfl)) (by dsimp only [List.set]; try rfl) ?_
  refine seqd rfl rfl (does_call (args := #[(Pt c_b c_o)]) cal69 (evs rfl) (c_spec_l09Axes c_b c_o [(Fl r1), (Fl r3), (Fl r5), (Fl r7), (Fl r9), (Fl r11), (Fl r13), (Iv A_c.width), (Iv A_c.height)] A_c _ (hc_c.ext X60) ⟨r1, r3, r5, r7, r9, r11, r13, rfl, h2, h4, h6, h8, h10, h12, h14⟩)) ?_; rintro _ w66 ⟨E65, ⟨_, _, _, rfl, ⟨r67, r69, r71, rfl, h68, h70, h72⟩, ⟨r73, r75, r77, rfl, h74, h76, h78⟩, ⟨r79, r81, r83, rfl, h80, h82, h84⟩⟩⟩
  have X85 := Ext.gr X60 E65
  show wpList _ _ _ _ (fr [(Pt c_b c_o), Ud, (Bo false), Ud, Ud, Ud, v18, v19, v20, v21, v22, v23, v24, v25, v26, v27, v28, v29, v30, v31, v32, v33, v34, v35, v36, v37, v38, v39, v40, v41, v42, v43, v44, v45, v46, v47, v48, v49, v50, v51, v52, v53, v54, (Bo (β3 || (!(finV A_c.to)))), Ud, (Pt c_b c_o), (.tuple #[(.agg #[(Fl r67), (Fl r69), (Fl r71)]), (.agg #[(Fl r73), (Fl r75), (Fl r77)]), (.agg #[(Fl r79), (Fl r81), (Fl r83)])]), Ud, Ud, Ud, Ud, Ud, Ud, Ud, Ud, Ud]) _
  refine q_is rfl rfl (does_move (u := (.tuple #[(.agg #[(Fl r67), (Fl r69), (Fl r71)]), (.agg #[(Fl r73), (Fl r75), (Fl r77)]), (.agg #[(Fl r79), (Fl r81), (Fl r83)])])) (ev rfl)) (by dsimp only [List.set]; try rfl) ?_
  refine q_is rfl rfl (does_extract (vs := #[(.agg #[(Fl r67), (Fl r69), (Fl r71)]), (.agg #[(Fl r73), (Fl r75), (Fl r77)]), (.agg #[(Fl r79), (Fl r81), (Fl r83)])]) (u := (.agg #[(Fl r67), (Fl r69), (Fl r71)])) (ev rfl) rfl) (by dsimp only [List.set]; try rfl) ?_
  refine q_is rfl rfl (does_extract (vs := #[(.agg #[(Fl r67), (Fl r69), (Fl r71)]), (.agg #[(Fl r73), (Fl r75), (Fl r77)]), (.agg #[(Fl r79), (Fl r81), (Fl r83)])]) (u := (.agg #[(Fl r73), (Fl r75), (Fl r77)])) (ev rfl) rfl) (by dsimp only [List.set]; try rfl) ?_
  refine q_is rfl rfl (does_extract (vs := #[(.agg #[(Fl r67), (Fl r69), (Fl r71)]), (.agg #[(Fl r73), (Fl r75), (Fl r77)]), (.agg #[(Fl r79), (Fl r81), (Fl r83)])]) (u := (.agg #[(Fl r79), (Fl r81), (Fl r83)])) (ev rfl) rfl) (by dsimp only [List.set]; try rfl) ?_
  refine seqd rfl rfl (does_alloc z26) ?_; rintro _ w90 ⟨b86, rfl, hb87, hB88, E89⟩
  have n91 : c_b < b86 := Nat.lt_of_lt_of_le (cell_lt (Cells.at (hc_c.ext X85) 0 rfl)) hb87
  have g92 : w.heap.size ≤ b86 := Nat.le_trans (Below.size X85) hb87
  change Blk _ _ [(Fl 0), (Fl 0), (Fl 0)] at hB88
  have X93 := Ext.gr X85 E89
  show wpList _ _ _ _ (fr [(Pt c_b c_o), Ud, (Bo false), (Pt b86 0), Ud, Ud, v18, v19, v20, v21, v22, v23, v24, v25, v26, v27, v28, v29, v30, v31, v32, v33, v34, v35, v36, v37, v38, v39, v40, v41, v42, v43, v44, v45, v46, v47, v48, v49, v50, v51, v52, v53, v54, (Bo (β3 || (!(finV A_c.to)))), (.tuple #[(.agg #[(Fl r67), (Fl r69), (Fl r71)]), (.agg #[(Fl r73), (Fl r75), (Fl r77)]), (.agg #[(Fl r79), (Fl r81), (Fl r83)])]), (Pt c_b c_o), (.tuple #[(.agg #[(Fl r67), (Fl r69), (Fl r71)]), (.agg #[(Fl r73), (Fl r75), (Fl r77)]), (.agg #[(Fl r79), (Fl r81), (Fl r83)])]), (.agg #[(Fl r67), (Fl r69), (Fl r71)]), (.agg #[(Fl r73), (Fl r75), (Fl r77)]), (.agg #[(Fl r79), (Fl r81), (Fl r83)]), Ud, Ud, Ud, Ud, Ud, Ud]) _
  refine seqd rfl rfl (does_alloc z26) ?_; rintro _ w98 ⟨b94, rfl, hb95, hB96, E97⟩
  have n99 : c_b < b94 := Nat.lt_of_lt_of_le (cell_lt (Cells.at (hc_c.ext X93) 0 rfl)) hb95
  have n100 : b86 < b94 := Nat.lt_of_lt_of_le (Blk.lt hB88) hb95
  have g101 : w.heap.size ≤ b94 := Nat.le_trans (Below.size X93) hb95
  change Blk _ _ [(Fl 0), (Fl 0), (Fl 0)] at hB96
  have X102 := Ext.gr X93 E97
  show wpList _ _ _ _ (fr [(Pt c_b c_o), Ud, (Bo false), (Pt b86 0), (Pt b94 0), Ud, v18, v19, v20, v21, v22, v23, v24, v25, v26, v27, v28, v29, v30, v31, v32, v33, v34, v35, v36, v37, v38, v39, v40, v41, v42, v43, v44, v45, v46, v47, v48, v49, v50, v51, v52, v53, v54, (Bo (β3 || (!(finV A_c.to)))), (.tuple #[(.agg #[(Fl r67), (Fl r69), (Fl r71)]), (.agg #[(Fl r73), (Fl r75), (Fl r77)]), (.agg #[(Fl r79), (Fl r81), (Fl r83)])]), (Pt c_b c_o), (.tuple #[(.agg #[(Fl r67), (Fl r69), (Fl r71)]), (.agg #[(Fl r73), (Fl r75), (Fl r77)]), (.agg #[(Fl r79), (Fl r81), (Fl r83)])]), (.agg #[(Fl r67), (Fl r69), (Fl r71)]), (.agg #[(Fl r73), (Fl r75), (Fl r77)]), (.agg #[(Fl r79), (Fl r81), (Fl r83)]), Ud, Ud, Ud, Ud, Ud, Ud]) _
  refine seqd rfl rfl (does_alloc z26) ?_; rintro _ w107 ⟨b103, rfl, hb104, hB105, E106⟩
  have n108 : c_b < b103 := Nat.lt_of_lt_of_le (cell_lt (Cells.at (hc_c.ext X102) 0 rfl)) hb104
  have n109 : b86 < b103 := Nat.lt_of_lt_of_le (Blk.lt (hB88.ext E97)) hb104
  have n110 : b94 < b103 := Nat.lt_of_lt_of_le (Blk.lt hB96) hb104
  have g111 : w.heap.size ≤ b103 := Nat.le_trans (Below.size X102) hb104
  change Blk _ _ [(Fl 0), (Fl 0), (Fl 0)] at hB105
  have X112 := Ext.gr X102 E106
  show wpList _ _ _ _ (fr [(Pt c_b c_o), Ud, (Bo false), (Pt b86 0), (Pt b94 0), (Pt b103 0), v18, v19, v20, v21, v22, v23, v24, v25, v26, v27, v28, v29, v30, v31, v32, v33, v34, v35, v36, v37, v38, v39, v40, v41, v42, v43, v44, v45, v46, v47, v48, v49, v50, v51, v52, v53, v54, (Bo (β3 || (!(finV A_c.to)))), (.tuple #[(.agg #[(Fl r67), (Fl r69), (Fl r71)]), (.agg #[(Fl r73), (Fl r75), (Fl r77)]), (.agg #[(Fl r79), (Fl r81), (Fl r83)])]), (Pt c_b c_o), (.tuple #[(.agg #[(Fl r67), (Fl r69), (Fl r71)]), (.agg #[(Fl r73), (Fl r75), (Fl r77)]), (.agg #[(Fl r79), (Fl r81), (Fl r83)])]), (.agg #[(Fl r67), (Fl r69), (Fl r71)]), (.agg #[(Fl r73), (Fl r75), (Fl r77)]), (.agg #[(Fl r79), (Fl r81), (Fl r83)]), Ud, Ud, Ud, Ud, Ud, Ud]) _
  refine seqn rfl rfl (does_store (n := 3) (cs := [(Fl 0), (Fl 0), (Fl 0)]) (u := (.agg #[(Fl r67), (Fl r69), (Fl r71)])) (ev rfl) (ev rfl) Try.sizeOf26 rfl ((hB88.ext E97).ext E106) (Nat.le_of_ble_eq_true rfl) rfl) ?_; rintro _ w115 ⟨rfl, W113, hB114⟩
  change Blk _ _ [(Fl r67), (Fl r69), (Fl r71)] at hB114
  have X116 := Below.wr X112 W113 g92
  refine seqn rfl rfl (does_store (n := 3) (cs := [(Fl 0), (Fl 0), (Fl 0)]) (u := (.agg #[(Fl r73), (Fl r75), (Fl r77)])) (ev rfl) (ev rfl) Try.sizeOf26 rfl ((hB96.ext E106).wr W113 (Nat.ne_of_gt n100)) (Nat.le_of_ble_eq_true rfl) rfl) ?_; rintro _ w119 ⟨rfl, W117, hB118⟩
  change Blk _ _ [(Fl r73), (Fl r75), (Fl r77)] at hB118
  have X120 := Below.wr X116 W117 g101
  refine seqn rfl rfl (does_store (n := 3) (cs := [(Fl 0), (Fl 0), (Fl 0)]) (u := (.agg #[(Fl r79), (Fl r81), (Fl r83)])) (ev rfl) (ev rfl) Try.sizeOf26 rfl ((hB105.wr W113 (Nat.ne_of_gt n109)).wr W117 (Nat.ne_of_gt n110)) (Nat.le_of_ble_eq_true rfl) rfl) ?_; rintro _ w123 ⟨rfl, W121, hB122⟩
  change Blk _ _ [(Fl r79), (Fl r81), (Fl r83)] at hB122
  have X124 := Below.wr X120 W121 g111
  refine wpList_nil (hK64 _ _ ?_)
  refine wp_seq_k fun K125 hK125 => ?_
  obtain ⟨β4, hβ4⟩ : ∃ b : Bool, b = ((someV (fwdC A_c)) && (someV (rgtC A_c))) := ⟨_, rfl⟩
  refine region_text (
    [Fact.pure [] (fun v => v = (.agg #[(Fl r79), (Fl r81), (Fl r83)])),
    Fact.pure [50] (fun v => v = (Bo (someV (fwdC A_c)))),
    Fact.pure [51] (fun v => v = (Bo (someV (fwdC A_c)))),
    Fact.pure [52] (fun v => (someV (fwdC A_c)) = true → v = (.agg #[(Fl r67), (Fl r69), (Fl r71)])),
    Fact.pure [53, 52] (fun v => (someV (fwdC A_c)) = true → v = (Bo (someV (rgtC A_c)))),
    Fact.pure [52, 54] (fun v => v = (Bo β4))]) (by simp [Fact.pure, Fact.mem]) ?_
  refine RW_d _ rfl (fun v => by dsimp only [List.set]; try rfl) (fun u hu hF => ?_) (fun v126 => ?_)
  · clear hF
    refine doesG_un rfl ?_
    refine (does_loadAgg (cs := [(Fl r79), (Fl r81), (Fl r83)]) (ev rfl) Try.isAgg26 Try.sizeOf26 (Blk.cells (hB122.ext hu)) rfl).mono ?_; rintro _ _ ⟨rfl, rfl⟩
    exact ⟨rfl, Ext.refl _⟩
  refine RW_d _ rfl (fun v => by dsimp only [List.set]; try rfl) (fun u hu hF => ?_) (fun v127 => ?_)
  · have h50_ : v126 = (.agg #[(Fl r79), (Fl r81), (Fl r83)]) := hF.1
    clear hF
    refine doesG_un rfl ?_
    obtain rfl := h50_
    refine (does_call (args := #[(.agg #[(Fl r79), (Fl r81), (Fl r83)])]) cal102 (evs rfl) (c_spec_l09Some [(Fl r79), (Fl r81), (Fl r83)] (fwdC A_c) _ ⟨r79, r81, r83, rfl, h80, h82, h84⟩)).mono ?_; rintro v u' ⟨hx, hv⟩
    exact ⟨hv, hx⟩
  refine RW_d _ rfl (fun v => by dsimp only [List.set]; try rfl) (fun u hu hF => ?_) (fun v128 => ?_)
  · have h51_ : v127 = (Bo (someV (fwdC A_c))) := hF.1
    clear hF
    refine doesG_un rfl ?_
    obtain rfl := h51_
    refine (does_move (u := (Bo (someV (fwdC A_c)))) (ev rfl)).mono ?_; rintro _ _ ⟨rfl, rfl⟩
    exact ⟨rfl, Ext.refl _⟩
  refine RW_d _ rfl (fun v => by dsimp only [List.set]; try rfl) (fun u hu hF => ?_) (fun v129 => ?_)
  · have h52_ : v128 = (Bo (someV (fwdC A_c))) := hF.1
    clear hF
    obtain rfl := h52_
    refine doesG_g (b := (someV (fwdC A_c))) rfl (yld rfl rfl) (fun hg1 => ?_) (fun hc => ⟨fun hg1 => absurd hg1 hc, Ext.refl _⟩)
    refine (does_loadAgg (cs := [(Fl r67), (Fl r69), (Fl r71)]) (ev rfl) Try.isAgg26 Try.sizeOf26 (Blk.cells (((hB114.wr W117 (Nat.ne_of_lt n100)).wr W121 (Nat.ne_of_lt n109)).ext hu)) rfl).mono ?_; rintro _ _ ⟨rfl, rfl⟩
    exact ⟨fun _ => rfl, Ext.refl _⟩
  refine RW_d _ rfl (fun v => by dsimp only [List.set]; try rfl) (fun u hu hF => ?_) (fun v130 => ?_)
  · have h53_ : (someV (fwdC A_c)) = true → v129 = (.agg #[(Fl r67), (Fl r69), (Fl r71)]) := hF.1
    have h52_ : v128 = (Bo (someV (fwdC A_c))) := hF.2.1
    clear hF
    obtain rfl := h52_
    refine doesG_g (b := (someV (fwdC A_c))) rfl (yld rfl rfl) (fun hg1 => ?_) (fun hc => ⟨fun hg1 => absurd hg1 hc, Ext.refl _⟩)
    obtain rfl := h53_ hg1
    refine (does_call (args := #[(.agg #[(Fl r67), (Fl r69), (Fl r71)])]) cal102 (evs rfl) (c_spec_l09Some [(Fl r67), (Fl r69), (Fl r71)] (rgtC A_c) _ ⟨r67, r69, r71, rfl, h68, h70, h72⟩)).mono ?_; rintro v u' ⟨hx, hv⟩
    exact ⟨fun _ => hv, hx⟩
  refine RW_d _ rfl (fun v => by dsimp only [List.set]; try rfl) (fun u hu hF => ?_) (fun v131 => ?_)
  · have h52_ : v128 = (Bo (someV (fwdC A_c))) := hF.1
    have h54_ : (someV (fwdC A_c)) = true → v130 = (Bo (someV (rgtC A_c))) := hF.2.1
    clear hF
    refine doesG_un rfl ?_
    skip
    obtain rfl := h52_
    refine (does_pick (b := (someV (fwdC A_c))) (ev rfl) (ev rfl) (ev rfl)).mono ?_; rintro _ _ ⟨rfl, rfl⟩; refine ⟨?_, Ext.refl _⟩; rw [hβ4]; skip
    cases hbb : (someV (fwdC A_c)) <;> simp [hbb] at h54_ ⊢
    all_goals (first | rfl | (subst h54_; rfl) | simp_all)
  refine RW_fin ?_; intro w132 E133 hP134
  obtain ⟨⟨⟨⟨⟨⟨-, -⟩, -⟩, -⟩, -⟩, -⟩, q135⟩ := hP134
  have X136 := Ext.gr X124 E133
  have q135 : v131 = (Bo β4) := q135
  obtain rfl := q135
  show wpList _ _ _ _ (fr [(Pt c_b c_o), Ud, (Bo false), (Pt b86 0), (Pt b94 0), (Pt b103 0), v18, v19, v20, v21, v22, v23, v24, v25, v26, v27, v28, v29, v30, v31, v32, v33, v34, v35, v36, v37, v38, v39, v40, v41, v42, v43, v44, v45, v46, v47, v48, v49, v50, v51, v52, v53, v54, (Bo (β3 || (!(finV A_c.to)))), (.tuple #[(.agg #[(Fl r67), (Fl r69), (Fl r71)]), (.agg #[(Fl r73), (Fl r75), (Fl r77)]), (.agg #[(Fl r79), (Fl r81), (Fl r83)])]), (Pt c_b c_o), (.tuple #[(.agg #[(Fl r67), (Fl r69), (Fl r71)]), (.agg #[(Fl r73), (Fl r75), (Fl r77)]), (.agg #[(Fl r79), (Fl r81), (Fl r83)])]), (.agg #[(Fl r67), (Fl r69), (Fl r71)]), (.agg #[(Fl r73), (Fl r75), (Fl r77)]), (.agg #[(Fl r79), (Fl r81), (Fl r83)]), v126, v127, v128, v129, v130, (Bo β4)]) _
  refine q_is rfl rfl (does_assign (u := (Bo β4)) (ev rfl)) (by dsimp only [List.set]; try rfl) ?_
  refine wpList_nil (hK125 _ _ ?_)
  refine wp_ret ?_
  refine ret_val (v := (Bo β4)) (res_T rfl (slot rfl)) X136 ?_
  try simp only [h2, h4, h6, h8, h10, h12, h14, hβ1, hβ2, hβ3, h68, h70, h72, h74, h76, h78, h80, h82, h84, hβ4] at c61
  have x137 : (isCam A_c) = β4 := by first | exact isCam_f (by assumption) | (rw [isCam_t (by assumption)]; simp only [h2, h4, h6, h8, h10, h12, h14, hβ1, hβ2, hβ3, h68, h70, h72, h74, h76, h78, h80, h82, h84, hβ4, c61]; done)
  exact (by first | rfl | rw [x137])

/- spec.l00Min -/
theorem c_spec_l00Min (m_ : Int) (n_ : Int) (w : World) : Gives Try.prog 107 #[(Iv m_), (Iv n_)] w (fun v w' => v = (Iv (min m_ n_))) := by
  refine enter [(Iv m_), (Iv n_), Ud, Ud, Ud, Ud, Ud, Ud, Ud, Ud] Try.func107 rfl Try.ntmps107 rfl ?_
  refine wp_seq_k fun K1 hK1 => ?_
  refine wp_region_lit ?_
  refine q_is (l' := [(Iv m_), (Iv n_), Ud, Ud, (Iv 0), Ud, Ud, Ud, Ud, Ud]) rfl rfl (does_assign (u := (Iv 0)) (ev rfl)) rfl ?_
  refine wpList_nil (hK1 _ _ ?_)
  refine wp_seq_k fun K2 hK2 => ?_
  refine wp_seq_k fun K3 hK3 => ?_
  refine wp_region_lit ?_
  refine q_is (l' := [(Iv m_), (Iv n_), Ud, Ud, (Iv 0), (Iv m_), Ud, Ud, Ud, Ud]) rfl rfl (does_move (u := (Iv m_)) (ev rfl)) rfl ?_
  refine q_is (l' := [(Iv m_), (Iv n_), Ud, Ud, (Iv 0), (Iv m_), (Iv n_), Ud, Ud, Ud]) rfl rfl (does_move (u := (Iv n_)) (ev rfl)) rfl ?_
  refine q_is (l' := [(Iv m_), (Iv n_), Ud, Ud, (Iv 0), (Iv m_), (Iv n_), (Bo (icmp .lss m_ n_)), Ud, Ud]) rfl rfl (does_icmp (p := m_) (q := n_) (.inr (.inr (.inl rfl))) (ev rfl) (ev rfl)) rfl ?_
  refine wpList_nil (hK3 _ _ ?_)
  refine wp_cond_split (t := icmp .lss m_ n_) (ev rfl) (fun c4 => ?_) (fun c4 => ?_)
  · have c4' := c4
    (try simp only [icmp, Bool.and_eq_true, Bool.or_eq_true, Bool.and_eq_false_iff, Bool.or_eq_false_iff, Bool.not_eq_true', Bool.not_eq_false', decide_eq_true_eq, decide_eq_false_iff_not, beq_iff_eq, bne_iff_ne, beq_eq_false_iff_ne, bne_eq_false_iff_eq] at c4')
    refine wp_seq_k fun K5 hK5 => ?_
    refine wp_region_lit ?_
    refine q_is (l' := [(Iv m_), (Iv n_), Ud, Ud, (Iv 0), (Iv m_), (Iv n_), (Bo (icmp .lss m_ n_)), (Iv m_), Ud]) rfl rfl (does_move (u := (Iv m_)) (ev rfl)) rfl ?_
    refine q_is (l' := [(Iv m_), (Iv n_), Ud, Ud, (Iv m_), (Iv m_), (Iv n_), (Bo (icmp .lss m_ n_)), (Iv m_), Ud]) rfl rfl (does_assign (u := (Iv m_)) (ev rfl)) rfl ?_
    refine wpList_nil (hK5 _ _ ?_)
    refine wp_ret ?_
    dsimp only [Exit.then, Exit.inBlock]
    refine ret_val (v := (Iv m_)) (res_T rfl (slot rfl)) (Ext.refl w) ?_
    have x6 : (min m_ n_ : Int) = m_ := by omega
    exact (by first | rfl | rw [x6])
  have c4' := c4
  (try simp only [icmp, Bool.and_eq_true, Bool.or_eq_true, Bool.and_eq_false_iff, Bool.or_eq_false_iff, Bool.not_eq_true', Bool.not_eq_false', decide_eq_true_eq, decide_eq_false_iff_not, beq_iff_eq, bne_iff_ne, beq_eq_false_iff_ne, bne_eq_false_iff_eq] at c4')
  refine wp_skip (hK2 _ _ ?_)
  refine wp_seq_k fun K7 hK7 => ?_
  refine wp_region_lit ?_
  refine q_is (l' := [(Iv m_), (Iv n_), Ud, Ud, (Iv 0), (Iv m_), (Iv n_), (Bo (icmp .lss m_ n_)), Ud, (Iv n_)]) rfl rfl (does_move (u := (Iv n_)) (ev rfl)) rfl ?_
  refine q_is (l' := [(Iv m_), (Iv n_), Ud, Ud, (Iv n_), (Iv m_), (Iv n_), (Bo (icmp .lss m_ n_)), Ud, (Iv n_)]) rfl rfl (does_assign (u := (Iv n_)) (ev rfl)) rfl ?_
  refine wpList_nil (hK7 _ _ ?_)
  refine wp_ret ?_
  refine ret_val (v := (Iv n_)) (res_T rfl (slot rfl)) (Ext.refl w) ?_
  have x8 : (min m_ n_ : Int) = n_ := by omega
  exact (by first | rfl | rw [x8])

/- spec.l09Tiles -/
theorem c_spec_l09Tiles (c_b : Nat) (c_o : Nat) (c : List Value) (A_c : CamT) (sz : Int) (w : World) (hc_c : Cells w c_b c_o c) (hv_c : RCamT w A_c c) (hcm : isCam A_c = true) (hsz : inI sz 1 12 = true) : Gives Try.prog 75 #[(Pt c_b c_o), (Iv sz)] w (fun v w' => ∃ y_1 : Value, v = y_1 ∧ Hang w.heap.size w' (fun u => Sl RTileT 4 u y_1 (tilesC A_c sz))) := by
  obtain ⟨r1, r3, r5, r7, r9, r11, r13, rfl, h2, h4, h6, h8, h10, h12, h14⟩ := hv_c
  have hwh := isCam_wh hcm
  have hsi := inI_iff.1 hsz
  refine enter [(Pt c_b c_o), (Iv sz), Ud, Ud, Ud, Ud, Ud, Ud, Ud, Ud, Ud, Ud, Ud, Ud, Ud, Ud, Ud, Ud, Ud, Ud, Ud, Ud, Ud, Ud, Ud, Ud, Ud, Ud, Ud, Ud, Ud, Ud, Ud, Ud, Ud, Ud, Ud, Ud, Ud, Ud, Ud, Ud, Ud, Ud, Ud, Ud, Ud, Ud, Ud, Ud] Try.func75 rfl Try.ntmps75 rfl ?_
  refine wp_seq_k fun K15 hK15 => ?_
  refine wp_region_lit ?_
  refine q_is rfl rfl (does_assign (u := (.slice none 0 0)) (ev rfl)) (by dsimp only [List.set]; try rfl) ?_
  refine wpList_nil (hK15 _ _ ?_)
  refine wp_seq_k fun K16 hK16 => ?_
  refine wp_region_lit ?_
  have n23 : c_b < w.heap.size := cell_lt (Cells.at hc_c 0 rfl)
  refine seqd rfl rfl (does_slice0 (e := 54) (fun _ => by kernel_rfl)) ?_; rintro _ w22 ⟨b17, rfl, hb18, hl19, hO20, E21⟩
  have X24 := Ext.gr (Ext.refl w) E21
  have hO25 := hO20 _ RTileT 4
  have hH26 : Hang w.heap.size w22 (fun u => Sl RTileT 4 u (.slice (some ⟨b17, 0, none⟩) 0 0) ([])) := Own.hang hO25 RTileT.flat (by decide) hb18 (Below.size E21)
  show wpList _ _ _ _ (fr [(Pt c_b c_o), (Iv sz), Ud, Ud, (.slice none 0 0), Ud, Ud, Ud, (.slice (some ⟨b17, 0, none⟩) 0 0), Ud, Ud, Ud, Ud, Ud, Ud, Ud, Ud, Ud, Ud, Ud, Ud, Ud, Ud, Ud, Ud, Ud, Ud, Ud, Ud, Ud, Ud, Ud, Ud, Ud, Ud, Ud, Ud, Ud, Ud, Ud, Ud, Ud, Ud, Ud, Ud, Ud, Ud, Ud, Ud, Ud]) _
  refine q_is rfl rfl (does_assign (u := (.slice (some ⟨b17, 0, none⟩) 0 0)) (ev rfl)) (by dsimp only [List.set]; try rfl) ?_
  refine wpList_nil (hK16 _ _ ?_)
  refine wp_seq_k fun K27 hK27 => ?_
  refine wp_seq_k fun K28 hK28 => ?_
  refine wp_region_lit ?_
  refine q_is rfl rfl (does_assign (u := (Iv 0)) (ev rfl)) (by dsimp only [List.set]; try rfl) ?_
  refine wpList_nil (hK28 _ _ ?_)
  refine wp_block ?_
  have n34 : c_b < w22.heap.size := cell_lt (Cells.at (hc_c.ext X24) 0 rfl)
  obtain ⟨gg30, hg31, hg32, hO33⟩ := Own.start' hO25 hO25
  have hN35 : w.heap.size ≤ gg30 := by rcases hg31 with h | h; exact h ▸ hb18; exact Nat.le_trans (Below.size E21) h
  have g36 : w.heap.size ≤ gg30 := Nat.le_trans (Below.size (Ext.refl _)) hN35
  have hg37 : gg30 < w22.heap.size := by rcases hg32 with h | h; exact h ▸ Nat.lt_of_lt_of_le hl19 (Nat.le_refl _); exact h
  refine loop_ghost (σ := Int × Nat × List TileT) (fun s a w' => ∃ u29 : Nat → Value, ∃ y5 : Value, a = fr [(Pt c_b c_o), (Iv sz), Ud, Ud, (.slice none 0 0), y5, (Iv s.1), (u29 7), (.slice (some ⟨b17, 0, none⟩) 0 0), (u29 9), (u29 10), (u29 11), (u29 12), (u29 13), (u29 14), (u29 15), (u29 16), (u29 17), (u29 18), (u29 19), (u29 20), (u29 21), (u29 22), (u29 23), (u29 24), (u29 25), (u29 26), (u29 27), (u29 28), (u29 29), (u29 30), (u29 31), (u29 32), (u29 33), (u29 34), (u29 35), (u29 36), (u29 37), (u29 38), (u29 39), (u29 40), (u29 41), (u29 42), (u29 43), (u29 44), (u29 45), (u29 46), (u29 47), (u29 48), Ud] ∧ KpL [gg30] w22 w' ∧ Own RTileT 4 54 gg30 w22.heap.size w' y5 s.2.2 ∧ (0 ≤ s.1 ∧ A_c.height - s.1 ≤ s.2.1 ∧ s.2.2 ++ rowsT A_c sz s.2.1 s.1 = tilesC A_c sz)) (fun s => (A_c.height - s.1).toNat) (0, 12, []) ?_ ?_
  · refine ⟨fun t => (([(Pt c_b c_o), (Iv sz), Ud, Ud, (.slice none 0 0), (.slice (some ⟨b17, 0, none⟩) 0 0), (Iv 0), Ud, (.slice (some ⟨b17, 0, none⟩) 0 0), Ud, Ud, Ud, Ud, Ud, Ud, Ud, Ud, Ud, Ud, Ud, Ud, Ud, Ud, Ud, Ud, Ud, Ud, Ud, Ud, Ud, Ud, Ud, Ud, Ud, Ud, Ud, Ud, Ud, Ud, Ud, Ud, Ud, Ud, Ud, Ud, Ud, Ud, Ud, Ud, Ud] : List Value)[t]?).getD undef, (.slice (some ⟨b17, 0, none⟩) 0 0), rfl, KpL.refl _ _, (Own.cast hO33 (by rfl)), ?_⟩
    exact ⟨by omega, by (try dsimp only); omega, rfl⟩
  · rintro s a w38 ⟨u29, y5, rfl, E39, hO41, ⟨hy0, hyf, hye⟩⟩
    have X42 := Below.kl X24 E39 (allS g36 all0) (Nat.le_refl _)
    obtain ⟨p43, q44, rfl⟩ := Own.shape hO41
    have hH45 : Hang w.heap.size w38 (fun u => Sl RTileT 4 u (.slice p43 s.2.2.length q44) s.2.2) := Own.hang hO41 RTileT.flat (by decide) hN35 (Below.size E21)
    have htl := tilesC_len A_c sz
    have hyl := congrArg List.length hye
    rw [List.length_append] at hyl
    refine wp_seq_k fun K46 hK46 => ?_
    refine wp_seq_k fun K47 hK47 => ?_
    refine wp_region_lit ?_
    refine q_is rfl rfl (does_move (u := (Iv s.1)) (ev rfl)) (by dsimp only [List.set]; try rfl) ?_
    refine q_is rfl rfl (does_move (u := (Pt c_b c_o)) (ev rfl)) (by dsimp only [List.set]; try rfl) ?_
    refine q_is rfl rfl (does_nilCheck (ev rfl)) (by dsimp only [List.set]; try rfl) ?_
    refine q_is rfl rfl (does_fieldAddr (ev rfl) fa48_4) (by dsimp only [List.set]; try rfl) ?_
    refine q_is rfl rfl (does_load (u := (Iv A_c.height)) (ev rfl) Try.isAgg2 (Cells.at (hc_c.ext X42) 8 rfl)) (by dsimp only [List.set]; try rfl) ?_
    refine q_is rfl rfl (does_icmp (p := s.1) (q := A_c.height) (.inr (.inr (.inl rfl))) (ev rfl) (ev rfl)) (by dsimp only [List.set]; try rfl) ?_
    refine wpList_nil (hK47 _ _ ?_)
    refine wp_cond_split (t := icmp .lss s.1 A_c.height) (ev rfl) (fun c48 => ?_) (fun c48 => ?_)
    · have c48' := c48
      (try simp only [icmp, Bool.and_eq_true, Bool.or_eq_true, Bool.and_eq_false_iff, Bool.or_eq_false_iff, Bool.not_eq_true', Bool.not_eq_false', decide_eq_true_eq, decide_eq_false_iff_not, beq_iff_eq, bne_iff_ne, beq_eq_false_iff_ne, bne_eq_false_iff_eq] at c48')
      refine wp_skip (hK46 _ _ ?_)
      refine wp_seq_k fun K49 hK49 => ?_
      refine wp_block ?_
      refine wp_seq_k fun K50 hK50 => ?_
      refine wp_region_lit ?_
      refine q_is rfl rfl (does_assign (u := (Iv 0)) (ev rfl)) (by dsimp only [List.set]; try rfl) ?_
      refine wpList_nil (hK50 _ _ ?_)
      refine wp_block ?_
      have n56 : c_b < w38.heap.size := cell_lt (Cells.at (hc_c.ext X42) 0 rfl)
      obtain ⟨gg52, hg53, hg54, hO55⟩ := Own.start' hO41 hO41
      have hN57 : w.heap.size ≤ gg52 := by rcases hg53 with h | h; exact h ▸ hN35; exact Nat.le_trans (Below.size E21) h
      have g58 : w.heap.size ≤ gg52 := Nat.le_trans (Below.size (Ext.refl _)) hN57
      have n59 : c_b ≠ gg52 := hg53.elim (fun h => by rw [h]; exact (Nat.ne_of_lt (Nat.lt_of_lt_of_le n23 hN35))) (fun h => Nat.ne_of_lt (Nat.lt_of_lt_of_le n34 h))
      have hg60 : gg52 < w38.heap.size := by rcases hg54 with h | h; exact h ▸ Nat.lt_of_lt_of_le hg37 (KpL.size E39); exact h
      refine loop_ghost (σ := Int × Nat × List TileT) (fun z a w' => ∃ u51 : Nat → Value, ∃ y5 : Value, a = fr [(Pt c_b c_o), (Iv sz), Ud, Ud, (.slice none 0 0), y5, (Iv s.1), (Iv z.1), (.slice (some ⟨b17, 0, none⟩) 0 0), (Iv s.1), (Pt c_b c_o), (Pt c_b c_o), (Pt c_b (c_o + 8)), (Iv A_c.height), (Bo (icmp .lss s.1 A_c.height)), (u29 15), (u29 16), (u29 17), (u51 18), (u51 19), (u51 20), (u51 21), (u51 22), (u51 23), (u51 24), (u51 25), (u51 26), (u51 27), (u51 28), (u51 29), (u51 30), (u51 31), (u51 32), (u51 33), (u51 34), (u51 35), (u51 36), (u51 37), (u51 38), (u51 39), (u51 40), (u51 41), (u51 42), (u51 43), (u51 44), (u51 45), (u51 46), (u51 47), (u51 48), Ud] ∧ KpL [gg52] w38 w' ∧ Own RTileT 4 54 gg52 w38.heap.size w' y5 z.2.2 ∧ (0 ≤ z.1 ∧ A_c.width - z.1 ≤ z.2.1 ∧ z.2.2 ++ rowT A_c sz s.1 z.2.1 z.1 = s.2.2 ++ rowT A_c sz s.1 12 0)) (fun z => (A_c.width - z.1).toNat) (0, 12, s.2.2) ?_ ?_
      · refine ⟨fun t => (([(Pt c_b c_o), (Iv sz), Ud, Ud, (.slice none 0 0), (.slice p43 s.2.2.length q44), (Iv s.1), (Iv 0), (.slice (some ⟨b17, 0, none⟩) 0 0), (Iv s.1), (Pt c_b c_o), (Pt c_b c_o), (Pt c_b (c_o + 8)), (Iv A_c.height), (Bo (icmp .lss s.1 A_c.height)), (u29 15), (u29 16), (u29 17), (u29 18), (u29 19), (u29 20), (u29 21), (u29 22), (u29 23), (u29 24), (u29 25), (u29 26), (u29 27), (u29 28), (u29 29), (u29 30), (u29 31), (u29 32), (u29 33), (u29 34), (u29 35), (u29 36), (u29 37), (u29 38), (u29 39), (u29 40), (u29 41), (u29 42), (u29 43), (u29 44), (u29 45), (u29 46), (u29 47), (u29 48), Ud] : List Value)[t]?).getD undef, (.slice p43 s.2.2.length q44), rfl, KpL.refl _ _, (Own.cast hO55 (by rfl)), ?_⟩
        exact ⟨by omega, by (try dsimp only); omega, rfl⟩
      · rintro z a w61 ⟨u51, y5, rfl, E62, hO64, ⟨hx0, hxf, hxe⟩⟩
        have X65 := Below.kl X42 E62 (allS g58 all0) (Nat.le_refl _)
        obtain ⟨p66, q67, rfl⟩ := Own.shape hO64
        have hH68 : Hang w.heap.size w61 (fun u => Sl RTileT 4 u (.slice p66 z.2.2.length q67) z.2.2) := Own.hang hO64 RTileT.flat (by decide) hN57 (Nat.le_trans (Below.size E21) (KpL.size E39))
        have hrl := rowT_len A_c sz s.1 12 0
        have hxl := congrArg List.length hxe
        rw [List.length_append, List.length_append] at hxl
        refine wp_seq_k fun K69 hK69 => ?_
        refine wp_seq_k fun K70 hK70 => ?_
        refine wp_region_lit ?_
        refine q_is rfl rfl (does_move (u := (Iv z.1)) (ev rfl)) (by dsimp only [List.set]; try rfl) ?_
        refine q_is rfl rfl (does_move (u := (Pt c_b c_o)) (ev rfl)) (by dsimp only [List.set]; try rfl) ?_
        refine q_is rfl rfl (does_nilCheck (ev rfl)) (by dsimp only [List.set]; try rfl) ?_
        refine q_is rfl rfl (does_fieldAddr (ev rfl) fa48_3) (by dsimp only [List.set]; try rfl) ?_
        refine q_is rfl rfl (does_load (u := (Iv A_c.width)) (ev rfl) Try.isAgg2 (Cells.at (hc_c.ext X65) 7 rfl)) (by dsimp only [List.set]; try rfl) ?_
        refine q_is rfl rfl (does_icmp (p := z.1) (q := A_c.width) (.inr (.inr (.inl rfl))) (ev rfl) (ev rfl)) (by dsimp only [List.set]; try rfl) ?_
        refine wpList_nil (hK70 _ _ ?_)
        refine wp_cond_split (t := icmp .lss z.1 A_c.width) (ev rfl) (fun c71 => ?_) (fun c71 => ?_)
        · have c71' := c71
          (try simp only [icmp, Bool.and_eq_true, Bool.or_eq_true, Bool.and_eq_false_iff, Bool.or_eq_false_iff, Bool.not_eq_true', Bool.not_eq_false', decide_eq_true_eq, decide_eq_false_iff_not, beq_iff_eq, bne_iff_ne, beq_eq_false_iff_ne, bne_eq_false_iff_eq] at c71')
          refine wp_skip (hK69 _ _ ?_)
          refine wp_seq_k fun K72 hK72 => ?_
          refine wp_block ?_
          refine region_any2 [] [0, 0, 0, 0, 0, 16, 48, 112, 0, 496, 1016, 0, 0, 4096, 12288, 28672, 0, 126976, 262136, 524286, 1048574, 2097151, 4194303] [] (
            [FactW.pure [] [] [] true (fun v => v = (.slice p66 z.2.2.length q67)),
              FactW.pure [] [] [] true (fun v => v = (Iv z.1)),
              FactW.pure [] [] [] true (fun v => v = (Iv s.1)),
              FactW.pure [] [] [] true (fun v => v = (Iv sz)),
              FactW.pure [] [] [] true (fun v => v = (Pt c_b c_o)),
              FactW.pure [4] [] [] true (fun v => v = (Pt c_b c_o)),
              FactW.pure [5] [] [] true (fun v => v = (Pt c_b (c_o + 7))),
              FactW.pure [6] [] [] true (fun v => v = (Iv A_c.width)),
              FactW.pure [] [] [] true (fun v => v = (Iv z.1)),
              FactW.pure [7, 8] [] [] true (fun v => v = (Iv (A_c.width - z.1))),
              FactW.pure [3, 9] [] [] true (fun v => v = (Iv (min sz (A_c.width - z.1)))),
              FactW.pure [] [] [] true (fun v => v = (Iv sz)),
              FactW.pure [] [] [] true (fun v => v = (Pt c_b c_o)),
              FactW.pure [12] [] [] true (fun v => v = (Pt c_b c_o)),
              FactW.pure [13] [] [] true (fun v => v = (Pt c_b (c_o + 8))),
              FactW.pure [14] [] [] true (fun v => v = (Iv A_c.height)),
              FactW.pure [] [] [] true (fun v => v = (Iv s.1)),
              FactW.pure [15, 16] [] [] true (fun v => v = (Iv (A_c.height - s.1))),
              FactW.pure [11, 17] [] [] true (fun v => v = (Iv (min sz (A_c.height - s.1)))),
              FactW.pure [1, 2, 10, 18] [] [] true (fun v => v = (.agg #[(Iv z.1), (Iv s.1), (Iv (min sz (A_c.width - z.1))), (Iv (min sz (A_c.height - s.1)))])),
              FactW.mem [19] [] [] [] true (fun v w' => ∃ b : Nat, v = .slice (some ⟨b, 0, none⟩) 1 1 ∧ w61.heap.size ≤ b ∧ Blk w' b [(Iv z.1), (Iv s.1), (Iv (min sz (A_c.width - z.1))), (Iv (min sz (A_c.height - s.1)))]) (by rintro v w1 w2 hx' ⟨b, rfl, hb, hB⟩; have hx := KpL.toExt hx'; exact ⟨b, rfl, hb, (hB.ext hx)⟩)]) mixed (by kernel_rfl) ?_
          obtain ⟨w73, hw75⟩ : ∃ w', w' = World.drew w61 := ⟨_, rfl⟩; rw [← hw75]; have E74 : Ext w61 w73 := by rw [hw75]; exact Ext.draw _
          clear hw75
          have X76 := Ext.gr X65 E74
          refine RW2_d _ rfl (fun v => by dsimp only [List.set]; try rfl) (fun u hu hF => ?_) (fun v77 => ?_)
          · replace hu : KpL [] _ _ := hu
            clear hF
            refine doesG_un rfl ?_
            refine (does_move (u := (.slice p66 z.2.2.length q67)) (ev rfl)).mono ?_; rintro _ _ ⟨rfl, rfl⟩
            exact ⟨rfl, KpL.refl _ _⟩
          refine RW2_d _ rfl (fun v => by dsimp only [List.set]; try rfl) (fun u hu hF => ?_) (fun v78 => ?_)
          · replace hu : KpL [] _ _ := hu
            clear hF
            refine doesG_un rfl ?_
            refine (does_move (u := (Iv z.1)) (ev rfl)).mono ?_; rintro _ _ ⟨rfl, rfl⟩
            exact ⟨rfl, KpL.refl _ _⟩
          refine RW2_d _ rfl (fun v => by dsimp only [List.set]; try rfl) (fun u hu hF => ?_) (fun v79 => ?_)
          · replace hu : KpL [] _ _ := hu
            clear hF
            refine doesG_un rfl ?_
            refine (does_move (u := (Iv s.1)) (ev rfl)).mono ?_; rintro _ _ ⟨rfl, rfl⟩
            exact ⟨rfl, KpL.refl _ _⟩
          refine RW2_d _ rfl (fun v => by dsimp only [List.set]; try rfl) (fun u hu hF => ?_) (fun v80 => ?_)
          · replace hu : KpL [] _ _ := hu
            clear hF
            refine doesG_un rfl ?_
            refine (does_move (u := (Iv sz)) (ev rfl)).mono ?_; rintro _ _ ⟨rfl, rfl⟩
            exact ⟨rfl, KpL.refl _ _⟩
          refine RW2_d _ rfl (fun v => by dsimp only [List.set]; try rfl) (fun u hu hF => ?_) (fun v81 => ?_)
          · replace hu : KpL [] _ _ := hu
            clear hF
            refine doesG_un rfl ?_
            refine (does_move (u := (Pt c_b c_o)) (ev rfl)).mono ?_; rintro _ _ ⟨rfl, rfl⟩
            exact ⟨rfl, KpL.refl _ _⟩
          refine RW2_d _ rfl (fun v => by dsimp only [List.set]; try rfl) (fun u hu hF => ?_) (fun v82 => ?_)
          · replace hu : KpL [] _ _ := hu
            have h31_ : v81 = (Pt c_b c_o) := hF.1
            clear hF
            refine doesG_un rfl ?_
            obtain rfl := h31_
            refine (does_nilCheck (ev rfl)).mono ?_; rintro _ _ ⟨rfl, rfl⟩
            exact ⟨rfl, KpL.refl _ _⟩
          refine RW2_d _ rfl (fun v => by dsimp only [List.set]; try rfl) (fun u hu hF => ?_) (fun v83 => ?_)
          · replace hu : KpL [] _ _ := hu
            have h32_ : v82 = (Pt c_b c_o) := hF.1
            clear hF
            refine doesG_un rfl ?_
            obtain rfl := h32_
            refine (does_fieldAddr (ev rfl) fa48_3).mono ?_; rintro _ _ ⟨rfl, rfl⟩
            exact ⟨rfl, KpL.refl _ _⟩
          refine RW2_d _ rfl (fun v => by dsimp only [List.set]; try rfl) (fun u hu hF => ?_) (fun v84 => ?_)
          · replace hu : KpL [] _ _ := hu
            have h33_ : v83 = (Pt c_b (c_o + 7)) := hF.1
            clear hF
            refine doesG_un rfl ?_
            obtain rfl := h33_
            refine (does_load (u := (Iv A_c.width)) (ev rfl) Try.isAgg2 (Cells.at (hc_c.ext (Ext.gr (Ext.gr X65 E74) (KpL.toExt hu))) 7 rfl)).mono ?_; rintro _ _ ⟨rfl, rfl⟩
            exact ⟨rfl, KpL.refl _ _⟩
          refine RW2_d _ rfl (fun v => by dsimp only [List.set]; try rfl) (fun u hu hF => ?_) (fun v85 => ?_)
          · replace hu : KpL [] _ _ := hu
            clear hF
            refine doesG_un rfl ?_
            refine (does_move (u := (Iv z.1)) (ev rfl)).mono ?_; rintro _ _ ⟨rfl, rfl⟩
            exact ⟨rfl, KpL.refl _ _⟩
          refine RW2_d _ rfl (fun v => by dsimp only [List.set]; try rfl) (fun u hu hF => ?_) (fun v86 => ?_)
          · replace hu : KpL [] _ _ := hu
            have h34_ : v84 = (Iv A_c.width) := hF.1
            have h35_ : v85 = (Iv z.1) := hF.2.1
            clear hF
            refine doesG_un rfl ?_
            obtain rfl := h34_
            obtain rfl := h35_
            refine (does_iarith (p := A_c.width) (q := z.1) (r := A_c.width - z.1) (ev rfl) (ev rfl) (.inr (.inl ⟨rfl, (in_i64 (by omega) (by omega)).symm⟩))).mono ?_; rintro _ _ ⟨rfl, rfl⟩
            exact ⟨rfl, KpL.refl _ _⟩
          refine RW2_d _ rfl (fun v => by dsimp only [List.set]; try rfl) (fun u hu hF => ?_) (fun v87 => ?_)
          · replace hu : KpL [] _ _ := hu
            have h30_ : v80 = (Iv sz) := hF.1
            have h36_ : v86 = (Iv (A_c.width - z.1)) := hF.2.1
            clear hF
            refine doesG_un rfl ?_
            obtain rfl := h30_
            obtain rfl := h36_
            refine (does_call (args := #[(Iv sz), (Iv (A_c.width - z.1))]) cal107 (evs rfl) (c_spec_l00Min sz (A_c.width - z.1) _)).mono ?_; rintro v u' ⟨hx, hv⟩
            exact ⟨hv, (KpL.of_ext hx)⟩
          refine RW2_d _ rfl (fun v => by dsimp only [List.set]; try rfl) (fun u hu hF => ?_) (fun v88 => ?_)
          · replace hu : KpL [] _ _ := hu
            clear hF
            refine doesG_un rfl ?_
            refine (does_move (u := (Iv sz)) (ev rfl)).mono ?_; rintro _ _ ⟨rfl, rfl⟩
            exact ⟨rfl, KpL.refl _ _⟩
          refine RW2_d _ rfl (fun v => by dsimp only [List.set]; try rfl) (fun u hu hF => ?_) (fun v89 => ?_)
          · replace hu : KpL [] _ _ := hu
            clear hF
            refine doesG_un rfl ?_
            refine (does_move (u := (Pt c_b c_o)) (ev rfl)).mono ?_; rintro _ _ ⟨rfl, rfl⟩
            exact ⟨rfl, KpL.refl _ _⟩
          refine RW2_d _ rfl (fun v => by dsimp only [List.set]; try rfl) (fun u hu hF => ?_) (fun v90 => ?_)
          · replace hu : KpL [] _ _ := hu
            have h39_ : v89 = (Pt c_b c_o) := hF.1
            clear hF
            refine doesG_un rfl ?_
            obtain rfl := h39_
            refine (does_nilCheck (ev rfl)).mono ?_; rintro _ _ ⟨rfl, rfl⟩
            exact ⟨rfl, KpL.refl _ _⟩
          refine RW2_d _ rfl (fun v => by dsimp only [List.set]; try rfl) (fun u hu hF => ?_) (fun v91 => ?_)
          · replace hu : KpL [] _ _ := hu
            have h40_ : v90 = (Pt c_b c_o) := hF.1
            clear hF
            refine doesG_un rfl ?_
            obtain rfl := h40_
            refine (does_fieldAddr (ev rfl) fa48_4).mono ?_; rintro _ _ ⟨rfl, rfl⟩
            exact ⟨rfl, KpL.refl _ _⟩
          refine RW2_d _ rfl (fun v => by dsimp only [List.set]; try rfl) (fun u hu hF => ?_) (fun v92 => ?_)
          · replace hu : KpL [] _ _ := hu
            have h41_ : v91 = (Pt c_b (c_o + 8)) := hF.1
            clear hF
            refine doesG_un rfl ?_
            obtain rfl := h41_
            refine (does_load (u := (Iv A_c.height)) (ev rfl) Try.isAgg2 (Cells.at (hc_c.ext (Ext.gr (Ext.gr X65 E74) (KpL.toExt hu))) 8 rfl)).mono ?_; rintro _ _ ⟨rfl, rfl⟩
            exact ⟨rfl, KpL.refl _ _⟩
          refine RW2_d _ rfl (fun v => by dsimp only [List.set]; try rfl) (fun u hu hF => ?_) (fun v93 => ?_)
          · replace hu : KpL [] _ _ := hu
            clear hF
            refine doesG_un rfl ?_
            refine (does_move (u := (Iv s.1)) (ev rfl)).mono ?_; rintro _ _ ⟨rfl, rfl⟩
            exact ⟨rfl, KpL.refl _ _⟩
          refine RW2_d _ rfl (fun v => by dsimp only [List.set]; try rfl) (fun u hu hF => ?_) (fun v94 => ?_)
          · replace hu : KpL [] _ _ := hu
            have h42_ : v92 = (Iv A_c.height) := hF.1
            have h43_ : v93 = (Iv s.1) := hF.2.1
            clear hF
            refine doesG_un rfl ?_
            obtain rfl := h42_
            obtain rfl := h43_
            refine (does_iarith (p := A_c.height) (q := s.1) (r := A_c.height - s.1) (ev rfl) (ev rfl) (.inr (.inl ⟨rfl, (in_i64 (by omega) (by omega)).symm⟩))).mono ?_; rintro _ _ ⟨rfl, rfl⟩
            exact ⟨rfl, KpL.refl _ _⟩
          refine RW2_d _ rfl (fun v => by dsimp only [List.set]; try rfl) (fun u hu hF => ?_) (fun v95 => ?_)
          · replace hu : KpL [] _ _ := hu
            have h38_ : v88 = (Iv sz) := hF.1
            have h44_ : v94 = (Iv (A_c.height - s.1)) := hF.2.1
            clear hF
            refine doesG_un rfl ?_
            obtain rfl := h38_
            obtain rfl := h44_
            refine (does_call (args := #[(Iv sz), (Iv (A_c.height - s.1))]) cal107 (evs rfl) (c_spec_l00Min sz (A_c.height - s.1) _)).mono ?_; rintro v u' ⟨hx, hv⟩
            exact ⟨hv, (KpL.of_ext hx)⟩
          refine RW2_d _ rfl (fun v => by dsimp only [List.set]; try rfl) (fun u hu hF => ?_) (fun v96 => ?_)
          · replace hu : KpL [] _ _ := hu
            have h28_ : v78 = (Iv z.1) := hF.1
            have h29_ : v79 = (Iv s.1) := hF.2.1
            have h37_ : v87 = (Iv (min sz (A_c.width - z.1))) := hF.2.2.1
            have h45_ : v95 = (Iv (min sz (A_c.height - s.1))) := hF.2.2.2.1
            clear hF
            refine doesG_un rfl ?_
            obtain rfl := h28_
            obtain rfl := h29_
            obtain rfl := h37_
            obtain rfl := h45_
            refine (does_build (parts' := [(0, (Iv z.1)), (1, (Iv s.1)), (2, (Iv (min sz (A_c.width - z.1)))), (3, (Iv (min sz (A_c.height - s.1))))]) (cells := #[(Iv z.1), (Iv s.1), (Iv (min sz (A_c.width - z.1))), (Iv (min sz (A_c.height - s.1)))]) (evp rfl) (by kernel_rfl)).mono ?_; rintro _ _ ⟨rfl, rfl⟩
            exact ⟨rfl, KpL.refl _ _⟩
          refine RW2_d _ rfl (fun v => by dsimp only [List.set]; try rfl) (fun u hu hF => ?_) (fun v97 => ?_)
          · replace hu : KpL [] _ _ := hu
            have h46_ : v96 = (.agg #[(Iv z.1), (Iv s.1), (Iv (min sz (A_c.width - z.1))), (Iv (min sz (A_c.height - s.1)))]) := hF.1
            clear hF
            refine doesG_un rfl ?_
            obtain rfl := h46_
            refine (does_buildSlice (e := 54) (parts' := [(0, (.agg #[(Iv z.1), (Iv s.1), (Iv (min sz (A_c.width - z.1))), (Iv (min sz (A_c.height - s.1)))]))]) (cells := [(Iv z.1), (Iv s.1), (Iv (min sz (A_c.width - z.1))), (Iv (min sz (A_c.height - s.1)))]) (evp rfl) (fun _ => by kernel_rfl)).mono ?_; rintro _ _ ⟨b, rfl, hb, hB, hx⟩
            exact ⟨⟨b, rfl, Nat.le_trans (Nat.le_trans (Below.size E74) (KpL.size hu)) hb, hB⟩, (KpL.of_ext hx)⟩
          refine RW2_fin ?_; intro w98 E99 hP100; replace E99 : KpL [] _ _ := E99
          obtain ⟨⟨⟨⟨⟨⟨⟨⟨⟨⟨⟨⟨⟨⟨⟨⟨⟨⟨⟨⟨⟨-, q101⟩, -⟩, -⟩, -⟩, -⟩, -⟩, -⟩, -⟩, -⟩, -⟩, -⟩, -⟩, -⟩, -⟩, -⟩, -⟩, -⟩, -⟩, -⟩, -⟩, q102⟩ := hP100
          have X103 := Below.kl X76 E99 all0 (Nat.le_refl _)
          have q101 : v77 = (.slice p66 z.2.2.length q67) := q101 rfl
          obtain rfl := q101
          have q102 : ∃ b : Nat, v97 = .slice (some ⟨b, 0, none⟩) 1 1 ∧ w61.heap.size ≤ b ∧ Blk w98 b [(Iv z.1), (Iv s.1), (Iv (min sz (A_c.width - z.1))), (Iv (min sz (A_c.height - s.1)))] := q102 rfl
          obtain ⟨b104, rfl, hb105, hB106⟩ := q102
          have n107 : c_b < b104 := Nat.lt_of_lt_of_le (cell_lt (Cells.at (hc_c.ext X65) 0 rfl)) hb105
          have g108 : w.heap.size ≤ b104 := Nat.le_trans (Below.size X65) hb105
          show wpList _ _ _ _ (fr [(Pt c_b c_o), (Iv sz), Ud, Ud, (.slice none 0 0), (.slice p66 z.2.2.length q67), (Iv s.1), (Iv z.1), (.slice (some ⟨b17, 0, none⟩) 0 0), (Iv s.1), (Pt c_b c_o), (Pt c_b c_o), (Pt c_b (c_o + 8)), (Iv A_c.height), (Bo (icmp .lss s.1 A_c.height)), (u29 15), (u29 16), (u29 17), (Iv z.1), (Pt c_b c_o), (Pt c_b c_o), (Pt c_b (c_o + 7)), (Iv A_c.width), (Bo (icmp .lss z.1 A_c.width)), (u51 24), (u51 25), (u51 26), (.slice p66 z.2.2.length q67), v78, v79, v80, v81, v82, v83, v84, v85, v86, v87, v88, v89, v90, v91, v92, v93, v94, v95, v96, (.slice (some ⟨b104, 0, none⟩) 1 1), (u51 48), Ud]) _
          refine seqd rfl rfl (does_append (R := RTileT) (k := 4) (g0 := gg52) (B := w38.heap.size) (xs := z.2.2) (ys := [(TileT.mk z.1 s.1 (min sz (A_c.width - z.1)) (min sz (A_c.height - s.1)))]) Try.underlying69 inf54 rfl (by decide) (ev rfl) (ev rfl) (Own.same hO64 RTileT.flat (((Same.refl _ _).ext E74).kl E99 all0) hN57 (Nat.le_trans (Below.size E21) (KpL.size E39))) RTileT.flat hB106 rfl rfl rfl (fun i x hi => lit1 (R := RTileT) (cs := [(Iv z.1), (Iv s.1), (Iv (min sz (A_c.width - z.1))), (Iv (min sz (A_c.height - s.1)))]) (y := (TileT.mk z.1 s.1 (min sz (A_c.width - z.1)) (min sz (A_c.height - s.1))))  rfl i x hi) (by first | (simp only [List.length_append, List.length_cons, List.length_nil]; omega) | omega) (Nat.le_trans (Nat.le_trans (KpL.size E62) (Below.size E74)) (KpL.size E99))) ?_; rintro y' w109 ⟨gg110, hg111, K112, hO113⟩
          have hN114 : w.heap.size ≤ gg110 := by rcases hg111 with h | h; exact h ▸ hN57; exact Nat.le_trans (Nat.le_trans (Below.size E21) (KpL.size E39)) h
          have g115 : w.heap.size ≤ gg110 := Nat.le_trans (Below.size (Ext.refl _)) hN114
          have n116 : c_b ≠ gg110 := hg111.elim (fun h => by rw [h]; exact n59) (fun h => Nat.ne_of_lt (Nat.lt_of_lt_of_le n56 h))
          have X117 := Below.kl X103 K112 (allS g115 all0) (Nat.le_refl _)
          obtain ⟨p118, q119, rfl⟩ := Own.shape hO113
          have hH120 : Hang w.heap.size w109 (fun u => Sl RTileT 4 u (.slice p118 ((z.2.2 ++ [(TileT.mk z.1 s.1 (min sz (A_c.width - z.1)) (min sz (A_c.height - s.1)))]).length) q119) (z.2.2 ++ [(TileT.mk z.1 s.1 (min sz (A_c.width - z.1)) (min sz (A_c.height - s.1)))])) := Own.hang hO113 RTileT.flat (by decide) hN57 (Nat.le_trans (Below.size E21) (KpL.size E39))
          show wpList _ _ _ _ (fr [(Pt c_b c_o), (Iv sz), Ud, Ud, (.slice none 0 0), (.slice p66 z.2.2.length q67), (Iv s.1), (Iv z.1), (.slice (some ⟨b17, 0, none⟩) 0 0), (Iv s.1), (Pt c_b c_o), (Pt c_b c_o), (Pt c_b (c_o + 8)), (Iv A_c.height), (Bo (icmp .lss s.1 A_c.height)), (u29 15), (u29 16), (u29 17), (Iv z.1), (Pt c_b c_o), (Pt c_b c_o), (Pt c_b (c_o + 7)), (Iv A_c.width), (Bo (icmp .lss z.1 A_c.width)), (u51 24), (u51 25), (u51 26), (.slice p66 z.2.2.length q67), v78, v79, v80, v81, v82, v83, v84, v85, v86, v87, v88, v89, v90, v91, v92, v93, v94, v95, v96, (.slice (some ⟨b104, 0, none⟩) 1 1), (.slice p118 ((z.2.2 ++ [(TileT.mk z.1 s.1 (min sz (A_c.width - z.1)) (min sz (A_c.height - s.1)))]).length) q119), Ud]) _
          refine q_is rfl rfl (does_assign (u := (.slice p118 ((z.2.2 ++ [(TileT.mk z.1 s.1 (min sz (A_c.width - z.1)) (min sz (A_c.height - s.1)))]).length) q119)) (ev rfl)) (by dsimp only [List.set]; try rfl) ?_
          refine wpList_nil (hK72 _ _ ?_)
          refine wp_region_lit ?_
          refine q_is rfl rfl (does_move (u := (Iv z.1)) (ev rfl)) (by dsimp only [List.set]; try rfl) ?_
          refine q_is rfl rfl (does_move (u := (Iv sz)) (ev rfl)) (by dsimp only [List.set]; try rfl) ?_
          refine q_is rfl rfl (does_iarith (p := z.1) (q := sz) (r := z.1 + sz) (ev rfl) (ev rfl) (.inl ⟨rfl, (in_i64 (by omega) (by omega)).symm⟩)) (by dsimp only [List.set]; try rfl) ?_
          refine q_is rfl rfl (does_assign (u := (Iv (z.1 + sz))) (ev rfl)) (by dsimp only [List.set]; try rfl) ?_
          refine wpList_nil ?_
          have hO121 := Own.cast (ys := ((fun (z : Int × Nat × List TileT) => z.2.2) (z.1 + sz, z.2.1 - 1, z.2.2 ++ [(TileT.mk z.1 s.1 (min sz (A_c.width - z.1)) (min sz (A_c.height - s.1)))]))) hO113 (by (try dsimp only); first | done | rfl)
          refine ⟨(z.1 + sz, z.2.1 - 1, z.2.2 ++ [(TileT.mk z.1 s.1 (min sz (A_c.width - z.1)) (min sz (A_c.height - s.1)))]), ⟨fun t => (([(Pt c_b c_o), (Iv sz), Ud, Ud, (.slice none 0 0), (.slice p118 ((z.2.2 ++ [(TileT.mk z.1 s.1 (min sz (A_c.width - z.1)) (min sz (A_c.height - s.1)))]).length) q119), (Iv s.1), (Iv (z.1 + sz)), (.slice (some ⟨b17, 0, none⟩) 0 0), (Iv s.1), (Pt c_b c_o), (Pt c_b c_o), (Pt c_b (c_o + 8)), (Iv A_c.height), (Bo (icmp .lss s.1 A_c.height)), (u29 15), (u29 16), (u29 17), (Iv z.1), (Pt c_b c_o), (Pt c_b c_o), (Pt c_b (c_o + 7)), (Iv A_c.width), (Bo (icmp .lss z.1 A_c.width)), (Iv z.1), (Iv sz), (Iv (z.1 + sz)), (.slice p66 z.2.2.length q67), v78, v79, v80, v81, v82, v83, v84, v85, v86, v87, v88, v89, v90, v91, v92, v93, v94, v95, v96, (.slice (some ⟨b104, 0, none⟩) 1 1), (.slice p118 ((z.2.2 ++ [(TileT.mk z.1 s.1 (min sz (A_c.width - z.1)) (min sz (A_c.height - s.1)))]).length) q119), Ud] : List Value)[t]?).getD undef, (.slice p118 ((z.2.2 ++ [(TileT.mk z.1 s.1 (min sz (A_c.width - z.1)) (min sz (A_c.height - s.1)))]).length) q119), ?_, (KpL.more (KpL.more (KpL.ext E62 E74) E99 all0) K112 (allS (hg111.imp (fun h => by simp [h]) id) all0)), hO121, ?_⟩, ?_⟩
          · first | rfl | (simp only [Nat.cast_add, Nat.cast_one, Int.natCast_add, Int.natCast_one]; rfl)
          · (try dsimp only); exact ⟨by omega, by omega, by rw [List.append_assoc, List.singleton_append]; exact (congrArg _ (rowT_step (by omega) hxf).symm).trans hxe⟩
          · (try dsimp only); omega
        have c71' := c71
        (try simp only [icmp, Bool.and_eq_true, Bool.or_eq_true, Bool.and_eq_false_iff, Bool.or_eq_false_iff, Bool.not_eq_true', Bool.not_eq_false', decide_eq_true_eq, decide_eq_false_iff_not, beq_iff_eq, bne_iff_ne, beq_eq_false_iff_ne, bne_eq_false_iff_eq] at c71')
        refine wp_exit ?_
        refine hK49 _ _ ?_
        refine wp_region_lit ?_
        refine q_is rfl rfl (does_move (u := (Iv s.1)) (ev rfl)) (by dsimp only [List.set]; try rfl) ?_
        refine q_is rfl rfl (does_move (u := (Iv sz)) (ev rfl)) (by dsimp only [List.set]; try rfl) ?_
        refine q_is rfl rfl (does_iarith (p := s.1) (q := sz) (r := s.1 + sz) (ev rfl) (ev rfl) (.inl ⟨rfl, (in_i64 (by omega) (by omega)).symm⟩)) (by dsimp only [List.set]; try rfl) ?_
        refine q_is rfl rfl (does_assign (u := (Iv (s.1 + sz))) (ev rfl)) (by dsimp only [List.set]; try rfl) ?_
        refine wpList_nil ?_
        have hO122 := Own.cast (ys := ((fun (s : Int × Nat × List TileT) => s.2.2) (s.1 + sz, s.2.1 - 1, z.2.2))) (Own.back hO64 hg53 (KpL.size E39)) (by (try dsimp only); first | done | rfl)
        refine ⟨(s.1 + sz, s.2.1 - 1, z.2.2), ⟨fun t => (([(Pt c_b c_o), (Iv sz), Ud, Ud, (.slice none 0 0), (.slice p66 z.2.2.length q67), (Iv (s.1 + sz)), (Iv z.1), (.slice (some ⟨b17, 0, none⟩) 0 0), (Iv s.1), (Pt c_b c_o), (Pt c_b c_o), (Pt c_b (c_o + 8)), (Iv A_c.height), (Bo (icmp .lss s.1 A_c.height)), (Iv s.1), (Iv sz), (Iv (s.1 + sz)), (Iv z.1), (Pt c_b c_o), (Pt c_b c_o), (Pt c_b (c_o + 7)), (Iv A_c.width), (Bo (icmp .lss z.1 A_c.width)), (u51 24), (u51 25), (u51 26), (u51 27), (u51 28), (u51 29), (u51 30), (u51 31), (u51 32), (u51 33), (u51 34), (u51 35), (u51 36), (u51 37), (u51 38), (u51 39), (u51 40), (u51 41), (u51 42), (u51 43), (u51 44), (u51 45), (u51 46), (u51 47), (u51 48), Ud] : List Value)[t]?).getD undef, (.slice p66 z.2.2.length q67), ?_, (KpL.more E39 E62 (allS (hg53.imp (fun h => by simp [h]) id) all0)), hO122, ?_⟩, ?_⟩
        · first | rfl | (simp only [Nat.cast_add, Nat.cast_one, Int.natCast_add, Int.natCast_one]; rfl)
        · (try dsimp only); exact ⟨by omega, by omega, by rw [show z.2.2 = s.2.2 ++ rowT A_c sz s.1 12 0 from by rw [← hxe, rowT_end (by omega), List.append_nil], List.append_assoc, ← rowsT_step (by omega) hyf, hye]⟩
        · (try dsimp only); omega
    have c48' := c48
    (try simp only [icmp, Bool.and_eq_true, Bool.or_eq_true, Bool.and_eq_false_iff, Bool.or_eq_false_iff, Bool.not_eq_true', Bool.not_eq_false', decide_eq_true_eq, decide_eq_false_iff_not, beq_iff_eq, bne_iff_ne, beq_eq_false_iff_ne, bne_eq_false_iff_eq] at c48')
    refine wp_exit ?_
    refine hK27 _ _ ?_
    refine wp_seq_k fun K123 hK123 => ?_
    refine wp_region_lit ?_
    refine q_is rfl rfl (does_move (u := (.slice p43 s.2.2.length q44)) (ev rfl)) (by dsimp only [List.set]; try rfl) ?_
    refine q_is rfl rfl (does_assign (u := (.slice p43 s.2.2.length q44)) (ev rfl)) (by dsimp only [List.set]; try rfl) ?_
    refine wpList_nil (hK123 _ _ ?_)
    refine wp_ret ?_
    refine ret_val (v := (.slice p43 s.2.2.length q44)) (res_T rfl (slot rfl)) X42 ?_
    try simp only [h2, h4, h6, h8, h10, h12, h14] at c48
    have x124 : s.2.2 = (tilesC A_c sz) := by first | omega | (rw [← hye, rowsT_end (by omega), List.append_nil])
    exact ⟨(.slice p43 s.2.2.length q44), rfl, (x124 ▸ (Own.hang hO41 RTileT.flat (by decide) (Nat.le_trans (Nat.le_refl _) hN35) (Nat.le_trans (Nat.le_refl _) (Below.size E21))))⟩

/- spec.TilesOf -/
theorem c_spec_TilesOf (c : List Value) (A_c : CamT) (sz : Int) (w : World) (hv_c : RCamT w A_c c) : Gives Try.prog 37 #[(.agg c.toArray), (Iv sz)] w (fun v w' => ∃ y_1 : Value, v = (.tuple #[y_1, (Bo (tilesOk A_c sz))]) ∧ Hang w.heap.size w' (fun u => Sl RTileT 4 u y_1 (gvA [] (tilesOk A_c sz) (tilesC A_c sz)))) := by
  obtain ⟨r1, r3, r5, r7, r9, r11, r13, rfl, h2, h4, h6, h8, h10, h12, h14⟩ := hv_c
  refine enter [(.agg #[(Fl r1), (Fl r3), (Fl r5), (Fl r7), (Fl r9), (Fl r11), (Fl r13), (Iv A_c.width), (Iv A_c.height)]), (Iv sz), Ud, Ud, Ud, Ud, Ud, Ud, Ud, Ud, Ud, Ud, Ud, Ud, Ud] Try.func37 rfl Try.ntmps37 rfl ?_
  refine wp_seq_k fun K15 hK15 => ?_
  refine wp_region_lit ?_
  refine seqd rfl rfl (does_box (u := (.agg #[(Fl r1), (Fl r3), (Fl r5), (Fl r7), (Fl r9), (Fl r11), (Fl r13), (Iv A_c.width), (Iv A_c.height)])) (ev rfl)) ?_; rintro _ w20 ⟨b16, rfl, hb17, hB18, E19⟩
  have g21 : w.heap.size ≤ b16 := Nat.le_trans (Below.size (Ext.refl w)) hb17
  change Blk _ _ [(Fl r1), (Fl r3), (Fl r5), (Fl r7), (Fl r9), (Fl r11), (Fl r13), (Iv A_c.width), (Iv A_c.height)] at hB18
  have X22 := Ext.gr (Ext.refl w) E19
  show wpList _ _ _ _ (fr [(.agg #[(Fl r1), (Fl r3), (Fl r5), (Fl r7), (Fl r9), (Fl r11), (Fl r13), (Iv A_c.width), (Iv A_c.height)]), (Iv sz), (Pt b16 0), Ud, Ud, Ud, Ud, Ud, Ud, Ud, Ud, Ud, Ud, Ud, Ud]) _
  refine q_is (l' := [(.agg #[(Fl r1), (Fl r3), (Fl r5), (Fl r7), (Fl r9), (Fl r11), (Fl r13), (Iv A_c.width), (Iv A_c.height)]), (Iv sz), (Pt b16 0), Ud, (.slice none 0 0), Ud, Ud, Ud, Ud, Ud, Ud, Ud, Ud, Ud, Ud]) rfl rfl (does_assign (u := (.slice none 0 0)) (ev rfl)) rfl ?_
  refine q_is (l' := [(.agg #[(Fl r1), (Fl r3), (Fl r5), (Fl r7), (Fl r9), (Fl r11), (Fl r13), (Iv A_c.width), (Iv A_c.height)]), (Iv sz), (Pt b16 0), Ud, (.slice none 0 0), (Bo false), Ud, Ud, Ud, Ud, Ud, Ud, Ud, Ud, Ud]) rfl rfl (does_assign (u := (Bo false)) (ev rfl)) rfl ?_
  refine wpList_nil (hK15 _ _ ?_)
  refine wp_seq_k fun K23 hK23 => ?_
  refine wp_seq_k fun K24 hK24 => ?_
  obtain ⟨β1, hβ1⟩ : ∃ b : Bool, b = ((!(isCam A_c)) || (!(inI sz 1 12))) := ⟨_, rfl⟩
  refine region_text (
    [Fact.pure [] (fun v => v = (Bo (isCam A_c))),
    Fact.pure [6] (fun v => v = (Bo (!(isCam A_c)))),
    Fact.pure [7] (fun v => v = (Bo (!(isCam A_c)))),
    Fact.pure [8] (fun v => (!(isCam A_c)) = false → v = (Iv sz)),
    Fact.pure [9, 8] (fun v => (!(isCam A_c)) = false → v = (Bo (inI sz 1 12))),
    Fact.pure [10, 8] (fun v => (!(isCam A_c)) = false → v = (Bo (!(inI sz 1 12)))),
    Fact.pure [8, 11] (fun v => v = (Bo β1))]) (by simp [Fact.pure, Fact.mem]) ?_
  refine RW_d (fun v25 => [(.agg #[(Fl r1), (Fl r3), (Fl r5), (Fl r7), (Fl r9), (Fl r11), (Fl r13), (Iv A_c.width), (Iv A_c.height)]), (Iv sz), (Pt b16 0), Ud, (.slice none 0 0), (Bo false), v25, Ud, Ud, Ud, Ud, Ud, Ud, Ud, Ud]) rfl (fun _ => rfl) (fun u hu hF => ?_) (fun v25 => ?_)
  · clear hF
    refine doesG_un rfl ?_
    refine (does_call (args := #[(Pt b16 0)]) cal64 (evs rfl) (c_spec_l09Is b16 0 [(Fl r1), (Fl r3), (Fl r5), (Fl r7), (Fl r9), (Fl r11), (Fl r13), (Iv A_c.width), (Iv A_c.height)] A_c _ (Blk.cells (hB18.ext hu)) ⟨r1, r3, r5, r7, r9, r11, r13, rfl, h2, h4, h6, h8, h10, h12, h14⟩)).mono ?_; rintro v u' ⟨hx, hv⟩
    exact ⟨hv, hx⟩
  refine RW_d (fun v26 => [(.agg #[(Fl r1), (Fl r3), (Fl r5), (Fl r7), (Fl r9), (Fl r11), (Fl r13), (Iv A_c.width), (Iv A_c.height)]), (Iv sz), (Pt b16 0), Ud, (.slice none 0 0), (Bo false), v25, v26, Ud, Ud, Ud, Ud, Ud, Ud, Ud]) rfl (fun _ => rfl) (fun u hu hF => ?_) (fun v26 => ?_)
  · have h6_ : v25 = (Bo (isCam A_c)) := hF.1
    clear hF
    refine doesG_un rfl ?_
    obtain rfl := h6_
    refine (does_not (ev rfl)).mono ?_; rintro _ _ ⟨rfl, rfl⟩
    exact ⟨rfl, Ext.refl _⟩
  refine RW_d (fun v27 => [(.agg #[(Fl r1), (Fl r3), (Fl r5), (Fl r7), (Fl r9), (Fl r11), (Fl r13), (Iv A_c.width), (Iv A_c.height)]), (Iv sz), (Pt b16 0), Ud, (.slice none 0 0), (Bo false), v25, v26, v27, Ud, Ud, Ud, Ud, Ud, Ud]) rfl (fun _ => rfl) (fun u hu hF => ?_) (fun v27 => ?_)
  · have h7_ : v26 = (Bo (!(isCam A_c))) := hF.1
    clear hF
    refine doesG_un rfl ?_
    obtain rfl := h7_
    refine (does_move (u := (Bo (!(isCam A_c)))) (ev rfl)).mono ?_; rintro _ _ ⟨rfl, rfl⟩
    exact ⟨rfl, Ext.refl _⟩
  refine RW_d (fun v28 => [(.agg #[(Fl r1), (Fl r3), (Fl r5), (Fl r7), (Fl r9), (Fl r11), (Fl r13), (Iv A_c.width), (Iv A_c.height)]), (Iv sz), (Pt b16 0), Ud, (.slice none 0 0), (Bo false), v25, v26, v27, v28, Ud, Ud, Ud, Ud, Ud]) rfl (fun _ => rfl) (fun u hu hF => ?_) (fun v28 => ?_)
  · have h8_ : v27 = (Bo (!(isCam A_c))) := hF.1
    clear hF
    obtain rfl := h8_
    refine doesG_g (b := (!(isCam A_c))) rfl (yld rfl rfl) (fun hg1 => ?_) (fun hc => ⟨fun hg1 => absurd hg1 hc, Ext.refl _⟩)
    refine (does_move (u := (Iv sz)) (ev rfl)).mono ?_; rintro _ _ ⟨rfl, rfl⟩
    exact ⟨fun _ => rfl, Ext.refl _⟩
  refine RW_d (fun v29 => [(.agg #[(Fl r1), (Fl r3), (Fl r5), (Fl r7), (Fl r9), (Fl r11), (Fl r13), (Iv A_c.width), (Iv A_c.height)]), (Iv sz), (Pt b16 0), Ud, (.slice none 0 0), (Bo false), v25, v26, v27, v28, v29, Ud, Ud, Ud, Ud]) rfl (fun _ => rfl) (fun u hu hF => ?_) (fun v29 => ?_)
  · have h9_ : (!(isCam A_c)) = false → v28 = (Iv sz) := hF.1
    have h8_ : v27 = (Bo (!(isCam A_c))) := hF.2.1
    clear hF
    obtain rfl := h8_
    refine doesG_g (b := (!(isCam A_c))) rfl (yld rfl rfl) (fun hg1 => ?_) (fun hc => ⟨fun hg1 => absurd hg1 hc, Ext.refl _⟩)
    obtain rfl := h9_ hg1
    refine (does_call (args := #[(Iv sz), (Iv 1), (Iv 12)]) cal74 (evs rfl) (c_spec_l00In sz 1 12 _)).mono ?_; rintro v u' ⟨hx, hv⟩
    exact ⟨fun _ => hv, hx⟩
  refine RW_d (fun v30 => [(.agg #[(Fl r1), (Fl r3), (Fl r5), (Fl r7), (Fl r9), (Fl r11), (Fl r13), (Iv A_c.width), (Iv A_c.height)]), (Iv sz), (Pt b16 0), Ud, (.slice none 0 0), (Bo false), v25, v26, v27, v28, v29, v30, Ud, Ud, Ud]) rfl (fun _ => rfl) (fun u hu hF => ?_) (fun v30 => ?_)
  · have h10_ : (!(isCam A_c)) = false → v29 = (Bo (inI sz 1 12)) := hF.1
    have h8_ : v27 = (Bo (!(isCam A_c))) := hF.2.1
    clear hF
    obtain rfl := h8_
    refine doesG_g (b := (!(isCam A_c))) rfl (yld rfl rfl) (fun hg1 => ?_) (fun hc => ⟨fun hg1 => absurd hg1 hc, Ext.refl _⟩)
    obtain rfl := h10_ hg1
    refine (does_not (ev rfl)).mono ?_; rintro _ _ ⟨rfl, rfl⟩
    exact ⟨fun _ => rfl, Ext.refl _⟩
  refine RW_d (fun v31 => [(.agg #[(Fl r1), (Fl r3), (Fl r5), (Fl r7), (Fl r9), (Fl r11), (Fl r13), (Iv A_c.width), (Iv A_c.height)]), (Iv sz), (Pt b16 0), Ud, (.slice none 0 0), (Bo false), v25, v26, v27, v28, v29, v30, v31, Ud, Ud]) rfl (fun _ => rfl) (fun u hu hF => ?_) (fun v31 => ?_)
  · have h8_ : v27 = (Bo (!(isCam A_c))) := hF.1
    have h11_ : (!(isCam A_c)) = false → v30 = (Bo (!(inI sz 1 12))) := hF.2.1
    clear hF
    refine doesG_un rfl ?_
    skip
    obtain rfl := h8_
    refine (does_pick (b := (!(isCam A_c))) (ev rfl) (ev rfl) (ev rfl)).mono ?_; rintro _ _ ⟨rfl, rfl⟩; refine ⟨?_, Ext.refl _⟩; rw [hβ1]; skip
    cases hbb : (!(isCam A_c)) <;> simp [hbb] at h11_ ⊢
    all_goals (first | rfl | (subst h11_; rfl) | simp_all)
  refine RW_fin ?_; intro w32 E33 hP34
  obtain ⟨⟨⟨⟨⟨⟨⟨-, -⟩, -⟩, -⟩, -⟩, -⟩, -⟩, q35⟩ := hP34
  have X36 := Ext.gr X22 E33
  have q35 : v31 = (Bo β1) := q35
  obtain rfl := q35
  show wpList _ _ _ _ (fr [(.agg #[(Fl r1), (Fl r3), (Fl r5), (Fl r7), (Fl r9), (Fl r11), (Fl r13), (Iv A_c.width), (Iv A_c.height)]), (Iv sz), (Pt b16 0), Ud, (.slice none 0 0), (Bo false), v25, v26, v27, v28, v29, v30, (Bo β1), Ud, Ud]) _
  refine wpList_nil (hK24 _ _ ?_)
  refine wp_cond_split (t := β1) (ev rfl) (fun c37 => ?_) (fun c37 => ?_)
  · have c37' := c37
    (try simp only [hβ1] at c37')
    (try simp only [icmp, Bool.and_eq_true, Bool.or_eq_true, Bool.and_eq_false_iff, Bool.or_eq_false_iff, Bool.not_eq_true', Bool.not_eq_false', decide_eq_true_eq, decide_eq_false_iff_not, beq_iff_eq, bne_iff_ne, beq_eq_false_iff_ne, bne_eq_false_iff_eq] at c37')
    refine wp_seq_k fun K38 hK38 => ?_
    refine wp_region_lit ?_
    refine q_is (l' := [(.agg #[(Fl r1), (Fl r3), (Fl r5), (Fl r7), (Fl r9), (Fl r11), (Fl r13), (Iv A_c.width), (Iv A_c.height)]), (Iv sz), (Pt b16 0), Ud, (.slice none 0 0), (Bo false), v25, v26, v27, v28, v29, v30, (Bo β1), Ud, Ud]) rfl rfl (does_assign (u := (.slice none 0 0)) (ev rfl)) rfl ?_
    refine q_is (l' := [(.agg #[(Fl r1), (Fl r3), (Fl r5), (Fl r7), (Fl r9), (Fl r11), (Fl r13), (Iv A_c.width), (Iv A_c.height)]), (Iv sz), (Pt b16 0), Ud, (.slice none 0 0), (Bo false), v25, v26, v27, v28, v29, v30, (Bo β1), Ud, Ud]) rfl rfl (does_assign (u := (Bo false)) (ev rfl)) rfl ?_
    refine wpList_nil (hK38 _ _ ?_)
    refine wp_ret ?_
    dsimp only [Exit.then, Exit.inBlock]
    refine ret_val (v := (.tuple #[(.slice none 0 0), (Bo false)])) (res_TT rfl (slot rfl) (slot rfl)) X36 ?_
    try simp only [h2, h4, h6, h8, h10, h12, h14, hβ1] at c37
    have x39 : (tilesOk A_c sz) = false := by first | exact tilesOk_f (by assumption) | exact tilesOk_t (by assumption) | (rw [tilesOk_f (by assumption)]; rfl) | (rw [tilesOk_t (by assumption), gvA_t]; done) | (rw [tilesOk_t (by assumption), gvA_t, ← hye, rowsT_end (by omega), List.append_nil])
    have x40 : ([]) = (gvA [] (tilesOk A_c sz) (tilesC A_c sz)) := by first | exact tilesOk_f (by assumption) | exact tilesOk_t (by assumption) | (rw [tilesOk_f (by assumption)]; rfl) | (rw [tilesOk_t (by assumption), gvA_t]; done) | (rw [tilesOk_t (by assumption), gvA_t, ← hye, rowsT_end (by omega), List.append_nil])
    exact ⟨(.slice none 0 0), (by first | rfl | rw [x39]), (x40 ▸ (Sl.hang_nil _ _ _ _))⟩
  have c37' := c37
  (try simp only [hβ1] at c37')
  (try simp only [icmp, Bool.and_eq_true, Bool.or_eq_true, Bool.and_eq_false_iff, Bool.or_eq_false_iff, Bool.not_eq_true', Bool.not_eq_false', decide_eq_true_eq, decide_eq_false_iff_not, beq_iff_eq, bne_iff_ne, beq_eq_false_iff_ne, bne_eq_false_iff_eq] at c37')
  have htk := tilesOk_iff.1 (tilesOk_t (c := A_c) (s := sz) (by assumption))
  refine wp_skip (hK23 _ _ ?_)
  refine wp_seq_k fun K41 hK41 => ?_
  refine wp_region_lit ?_
  refine q_is (l' := [(.agg #[(Fl r1), (Fl r3), (Fl r5), (Fl r7), (Fl r9), (Fl r11), (Fl r13), (Iv A_c.width), (Iv A_c.height)]), (Iv sz), (Pt b16 0), Ud, (.slice none 0 0), (Bo false), v25, v26, v27, v28, v29, v30, (Bo β1), (Iv sz), Ud]) rfl rfl (does_move (u := (Iv sz)) (ev rfl)) rfl ?_
  refine seqd rfl rfl (does_call (args := #[(Pt b16 0), (Iv sz)]) cal75 (evs rfl) (c_spec_l09Tiles b16 0 [(Fl r1), (Fl r3), (Fl r5), (Fl r7), (Fl r9), (Fl r11), (Fl r13), (Iv A_c.width), (Iv A_c.height)] A_c sz _ (Blk.cells (hB18.ext E33)) ⟨r1, r3, r5, r7, r9, r11, r13, rfl, h2, h4, h6, h8, h10, h12, h14⟩ (by exact htk.1) (by exact htk.2))) ?_; rintro _ w43 ⟨E42, ⟨y45, rfl, hh44⟩⟩
  have X46 := Ext.gr X36 E42
  have n47 : b16 < w32.heap.size := Blk.lt (hB18.ext E33)
  obtain ⟨p48, q49, rfl⟩ := Sl.shape hh44.get
  show wpList _ _ _ _ (fr [(.agg #[(Fl r1), (Fl r3), (Fl r5), (Fl r7), (Fl r9), (Fl r11), (Fl r13), (Iv A_c.width), (Iv A_c.height)]), (Iv sz), (Pt b16 0), Ud, (.slice none 0 0), (Bo false), v25, v26, v27, v28, v29, v30, (Bo β1), (Iv sz), (.slice p48 ((tilesC A_c sz).length) q49)]) _
  refine q_is (l' := [(.agg #[(Fl r1), (Fl r3), (Fl r5), (Fl r7), (Fl r9), (Fl r11), (Fl r13), (Iv A_c.width), (Iv A_c.height)]), (Iv sz), (Pt b16 0), Ud, (.slice p48 ((tilesC A_c sz).length) q49), (Bo false), v25, v26, v27, v28, v29, v30, (Bo β1), (Iv sz), (.slice p48 ((tilesC A_c sz).length) q49)]) rfl rfl (does_assign (u := (.slice p48 ((tilesC A_c sz).length) q49)) (ev rfl)) rfl ?_
  refine q_is (l' := [(.agg #[(Fl r1), (Fl r3), (Fl r5), (Fl r7), (Fl r9), (Fl r11), (Fl r13), (Iv A_c.width), (Iv A_c.height)]), (Iv sz), (Pt b16 0), Ud, (.slice p48 ((tilesC A_c sz).length) q49), (Bo true), v25, v26, v27, v28, v29, v30, (Bo β1), (Iv sz), (.slice p48 ((tilesC A_c sz).length) q49)]) rfl rfl (does_assign (u := (Bo true)) (ev rfl)) rfl ?_
  refine wpList_nil (hK41 _ _ ?_)
  refine wp_ret ?_
  refine ret_val (v := (.tuple #[(.slice p48 ((tilesC A_c sz).length) q49), (Bo true)])) (res_TT rfl (slot rfl) (slot rfl)) X46 ?_
  try simp only [h2, h4, h6, h8, h10, h12, h14, hβ1] at c37
  have x50 : (tilesOk A_c sz) = true := by first | exact tilesOk_f (by assumption) | exact tilesOk_t (by assumption) | (rw [tilesOk_f (by assumption)]; rfl) | (rw [tilesOk_t (by assumption), gvA_t]; done) | (rw [tilesOk_t (by assumption), gvA_t, ← hye, rowsT_end (by omega), List.append_nil])
  have x51 : (tilesC A_c sz) = (gvA [] (tilesOk A_c sz) (tilesC A_c sz)) := by first | exact tilesOk_f (by assumption) | exact tilesOk_t (by assumption) | (rw [tilesOk_f (by assumption)]; rfl) | (rw [tilesOk_t (by assumption), gvA_t]; done) | (rw [tilesOk_t (by assumption), gvA_t, ← hye, rowsT_end (by omega), List.append_nil])
  exact ⟨(.slice p48 ((tilesC A_c sz).length) q49), (by first | rfl | rw [x50]), (x51 ▸ (hh44.le (Below.size (Ext.gr (Ext.gr (Ext.refl _) E19) E33))))⟩

/- impl.in -/
theorem c_impl_in (n : Int) (low : Int) (high : Int) (w : World) : Gives Try.prog 56 #[(Iv n), (Iv low), (Iv high)] w (fun v w' => v = (Bo (inI n low high))) := by
  refine enter [(Iv n), (Iv low), (Iv high), Ud, Ud, Ud, Ud, Ud, Ud, Ud, Ud, Ud, Ud, Ud, Ud] Try.func56 rfl Try.ntmps56 rfl ?_
  refine wp_seq_k fun K1 hK1 => ?_
  refine wp_region_lit ?_
  refine q_is (l' := [(Iv n), (Iv low), (Iv high), Ud, Ud, Ud, (Bo false), Ud, Ud, Ud, Ud, Ud, Ud, Ud, Ud]) rfl rfl (does_assign (u := (Bo false)) (ev rfl)) rfl ?_
  refine wpList_nil (hK1 _ _ ?_)
  refine wp_seq_k fun K2 hK2 => ?_
  obtain ⟨β1, hβ1⟩ : ∃ b : Bool, b = ((icmp .geq n low) && (icmp .leq n high)) := ⟨_, rfl⟩
  refine region_text (
    [Fact.pure [] (fun v => v = (Iv n)),
    Fact.pure [] (fun v => v = (Iv low)),
    Fact.pure [7, 8] (fun v => v = (Bo (icmp .geq n low))),
    Fact.pure [9] (fun v => v = (Bo (icmp .geq n low))),
    Fact.pure [10] (fun v => (icmp .geq n low) = true → v = (Iv n)),
    Fact.pure [10] (fun v => (icmp .geq n low) = true → v = (Iv high)),
    Fact.pure [11, 12, 10] (fun v => (icmp .geq n low) = true → v = (Bo (icmp .leq n high))),
    Fact.pure [10, 13] (fun v => v = (Bo β1))]) (by simp [Fact.pure, Fact.mem]) ?_
  refine RW_d (fun v3 => [(Iv n), (Iv low), (Iv high), Ud, Ud, Ud, (Bo false), v3, Ud, Ud, Ud, Ud, Ud, Ud, Ud]) rfl (fun _ => rfl) (fun u hu hF => ?_) (fun v3 => ?_)
  · clear hF
    refine doesG_un rfl ?_
    refine (does_move (u := (Iv n)) (ev rfl)).mono ?_; rintro _ _ ⟨rfl, rfl⟩
    exact ⟨rfl, Ext.refl _⟩
  refine RW_d (fun v4 => [(Iv n), (Iv low), (Iv high), Ud, Ud, Ud, (Bo false), v3, v4, Ud, Ud, Ud, Ud, Ud, Ud]) rfl (fun _ => rfl) (fun u hu hF => ?_) (fun v4 => ?_)
  · clear hF
    refine doesG_un rfl ?_
    refine (does_move (u := (Iv low)) (ev rfl)).mono ?_; rintro _ _ ⟨rfl, rfl⟩
    exact ⟨rfl, Ext.refl _⟩
  refine RW_d (fun v5 => [(Iv n), (Iv low), (Iv high), Ud, Ud, Ud, (Bo false), v3, v4, v5, Ud, Ud, Ud, Ud, Ud]) rfl (fun _ => rfl) (fun u hu hF => ?_) (fun v5 => ?_)
  · have h7_ : v3 = (Iv n) := hF.1
    have h8_ : v4 = (Iv low) := hF.2.1
    clear hF
    refine doesG_un rfl ?_
    obtain rfl := h7_
    obtain rfl := h8_
    refine (does_icmp (p := n) (q := low) (.inr (.inr (.inr (.inr (.inr rfl))))) (ev rfl) (ev rfl)).mono ?_; rintro _ _ ⟨rfl, rfl⟩
    exact ⟨rfl, Ext.refl _⟩
  refine RW_d (fun v6 => [(Iv n), (Iv low), (Iv high), Ud, Ud, Ud, (Bo false), v3, v4, v5, v6, Ud, Ud, Ud, Ud]) rfl (fun _ => rfl) (fun u hu hF => ?_) (fun v6 => ?_)
  · have h9_ : v5 = (Bo (icmp .geq n low)) := hF.1
    clear hF
    refine doesG_un rfl ?_
    obtain rfl := h9_
    refine (does_move (u := (Bo (icmp .geq n low))) (ev rfl)).mono ?_; rintro _ _ ⟨rfl, rfl⟩
    exact ⟨rfl, Ext.refl _⟩
  refine RW_d (fun v7 => [(Iv n), (Iv low), (Iv high), Ud, Ud, Ud, (Bo false), v3, v4, v5, v6, v7, Ud, Ud, Ud]) rfl (fun _ => rfl) (fun u hu hF => ?_) (fun v7 => ?_)
  · have h10_ : v6 = (Bo (icmp .geq n low)) := hF.1
    clear hF
    obtain rfl := h10_
    refine doesG_g (b := (icmp .geq n low)) rfl (yld rfl rfl) (fun hg1 => ?_) (fun hc => ⟨fun hg1 => absurd hg1 hc, Ext.refl _⟩)
    refine (does_move (u := (Iv n)) (ev rfl)).mono ?_; rintro _ _ ⟨rfl, rfl⟩
    exact ⟨fun _ => rfl, Ext.refl _⟩
  refine RW_d (fun v8 => [(Iv n), (Iv low), (Iv high), Ud, Ud, Ud, (Bo false), v3, v4, v5, v6, v7, v8, Ud, Ud]) rfl (fun _ => rfl) (fun u hu hF => ?_) (fun v8 => ?_)
  · have h10_ : v6 = (Bo (icmp .geq n low)) := hF.1
    clear hF
    obtain rfl := h10_
    refine doesG_g (b := (icmp .geq n low)) rfl (yld rfl rfl) (fun hg1 => ?_) (fun hc => ⟨fun hg1 => absurd hg1 hc, Ext.refl _⟩)
    refine (does_move (u := (Iv high)) (ev rfl)).mono ?_; rintro _ _ ⟨rfl, rfl⟩
    exact ⟨fun _ => rfl, Ext.refl _⟩
  refine RW_d (fun v9 => [(Iv n), (Iv low), (Iv high), Ud, Ud, Ud, (Bo false), v3, v4, v5, v6, v7, v8, v9, Ud]) rfl (fun _ => rfl) (fun u hu hF => ?_) (fun v9 => ?_)
  · have h11_ : (icmp .geq n low) = true → v7 = (Iv n) := hF.1
    have h12_ : (icmp .geq n low) = true → v8 = (Iv high) := hF.2.1
    have h10_ : v6 = (Bo (icmp .geq n low)) := hF.2.2.1
    clear hF
    obtain rfl := h10_
    refine doesG_g (b := (icmp .geq n low)) rfl (yld rfl rfl) (fun hg1 => ?_) (fun hc => ⟨fun hg1 => absurd hg1 hc, Ext.refl _⟩)
    obtain rfl := h11_ hg1
    obtain rfl := h12_ hg1
    refine (does_icmp (p := n) (q := high) (.inr (.inr (.inr (.inl rfl)))) (ev rfl) (ev rfl)).mono ?_; rintro _ _ ⟨rfl, rfl⟩
    exact ⟨fun _ => rfl, Ext.refl _⟩
  refine RW_d (fun v10 => [(Iv n), (Iv low), (Iv high), Ud, Ud, Ud, (Bo false), v3, v4, v5, v6, v7, v8, v9, v10]) rfl (fun _ => rfl) (fun u hu hF => ?_) (fun v10 => ?_)
  · have h10_ : v6 = (Bo (icmp .geq n low)) := hF.1
    have h13_ : (icmp .geq n low) = true → v9 = (Bo (icmp .leq n high)) := hF.2.1
    clear hF
    refine doesG_un rfl ?_
    skip
    obtain rfl := h10_
    refine (does_pick (b := (icmp .geq n low)) (ev rfl) (ev rfl) (ev rfl)).mono ?_; rintro _ _ ⟨rfl, rfl⟩; refine ⟨?_, Ext.refl _⟩; rw [hβ1]; skip
    cases hbb : (icmp .geq n low) <;> simp [hbb] at h13_ ⊢
    all_goals (first | rfl | (subst h13_; rfl) | simp_all)
  refine RW_fin ?_; intro w11 E12 hP13
  obtain ⟨⟨⟨⟨⟨⟨⟨⟨-, -⟩, -⟩, -⟩, -⟩, -⟩, -⟩, -⟩, q14⟩ := hP13
  have X15 := Ext.gr (Ext.refl w) E12
  have q14 : v10 = (Bo β1) := q14
  obtain rfl := q14
  show wpList _ _ _ _ (fr [(Iv n), (Iv low), (Iv high), Ud, Ud, Ud, (Bo false), v3, v4, v5, v6, v7, v8, v9, (Bo β1)]) _
  refine q_is (l' := [(Iv n), (Iv low), (Iv high), Ud, Ud, Ud, (Bo β1), v3, v4, v5, v6, v7, v8, v9, (Bo β1)]) rfl rfl (does_assign (u := (Bo β1)) (ev rfl)) rfl ?_
  refine wpList_nil (hK2 _ _ ?_)
  refine wp_ret ?_
  refine ret_val (v := (Bo β1)) (res_T rfl (slot rfl)) X15 ?_
  have x16 : (inI n low high) = β1 := by first | with_reducible rfl | (simp only [inI, hβ1]; done) | (simp [inI, hβ1]; done) | rfl
  exact (by first | rfl | rw [x16])

/- slices.IndexFunc[[]float32,float32] -/
theorem c_slices_IndexFunc_float32_float32 (xs : Value) (L_xs : List Nat) (f : Value) (pr_f : Nat → Bool) (w : World) (hv_xs : Sl RF 1 w xs L_xs) (hv_f : TellsF Try.prog f w pr_f) : Gives Try.prog 115 #[xs, f] w (fun v w' => v = (Iv (findI pr_f L_xs))) := by
  have hlen_xs := Sl.len hv_xs; obtain ⟨p_xs, q_xs, rfl⟩ := Sl.shape hv_xs
  obtain ⟨f_f, s_f, c_f, rfl, hcal_f, hg_f⟩ := hv_f
  refine enter [(.slice p_xs L_xs.length q_xs), (.func (.func f_f) s_f c_f), Ud, Ud, Ud, Ud, Ud, Ud, Ud, Ud, Ud, Ud, Ud, Ud, Ud, Ud, Ud, Ud, Ud] Try.func115 rfl Try.ntmps115 rfl ?_
  refine wp_seq_k fun K1 hK1 => ?_
  refine wp_region_lit ?_
  refine q_is (l' := [(.slice p_xs L_xs.length q_xs), (.func (.func f_f) s_f c_f), Ud, Ud, (Iv 0), Ud, Ud, Ud, Ud, Ud, Ud, Ud, Ud, Ud, Ud, Ud, Ud, Ud, Ud]) rfl rfl (does_assign (u := (Iv 0)) (ev rfl)) rfl ?_
  refine wpList_nil (hK1 _ _ ?_)
  refine wp_seq_k fun K2 hK2 => ?_
  refine wp_seq_k fun K3 hK3 => ?_
  refine wp_region_lit ?_
  refine q_is (l' := [(.slice p_xs L_xs.length q_xs), (.func (.func f_f) s_f c_f), Ud, Ud, (Iv 0), Ud, (.slice p_xs L_xs.length q_xs), Ud, Ud, Ud, Ud, Ud, Ud, Ud, Ud, Ud, Ud, Ud, Ud]) rfl rfl (does_move (u := (.slice p_xs L_xs.length q_xs)) (ev rfl)) rfl ?_
  refine q_is (l' := [(.slice p_xs L_xs.length q_xs), (.func (.func f_f) s_f c_f), Ud, Ud, (Iv 0), Ud, (.slice p_xs L_xs.length q_xs), (Iv (L_xs.length : Int)), Ud, Ud, Ud, Ud, Ud, Ud, Ud, Ud, Ud, Ud, Ud]) rfl rfl (does_len_slice Try.underlying75 (ev rfl)) rfl ?_
  refine q_is (l' := [(.slice p_xs L_xs.length q_xs), (.func (.func f_f) s_f c_f), Ud, Ud, (Iv 0), Ud, (.slice p_xs L_xs.length q_xs), (Iv (L_xs.length : Int)), (Iv 0), Ud, Ud, Ud, Ud, Ud, Ud, Ud, Ud, Ud, Ud]) rfl rfl (does_move (u := (Iv 0)) (ev rfl)) rfl ?_
  refine wpList_nil (hK3 _ _ ?_)
  refine wp_block ?_
  refine loop_ghost (σ := Nat) (fun k a w' => ∃ u4 : Nat → Value, a = fr [(.slice p_xs L_xs.length q_xs), (.func (.func f_f) s_f c_f), Ud, Ud, (u4 4), (u4 5), (.slice p_xs L_xs.length q_xs), (Iv (L_xs.length : Int)), (Iv (k : Int)), (u4 9), (u4 10), (u4 11), (u4 12), (u4 13), (u4 14), (u4 15), (u4 16), (u4 17), (u4 18)] ∧ Ext w w' ∧ (k ≤ L_xs.length ∧ NoneTo pr_f L_xs k)) (fun k => L_xs.length - k) 0 ?_ ?_
  · refine ⟨fun t => (([(.slice p_xs L_xs.length q_xs), (.func (.func f_f) s_f c_f), Ud, Ud, (Iv 0), Ud, (.slice p_xs L_xs.length q_xs), (Iv (L_xs.length : Int)), (Iv 0), Ud, Ud, Ud, Ud, Ud, Ud, Ud, Ud, Ud, Ud] : List Value)[t]?).getD undef, rfl, Ext.refl _, ?_⟩
    exact ⟨Nat.zero_le _, NoneTo.zero⟩
  · rintro k a w5 ⟨u4, rfl, E6, ⟨hk, hno⟩⟩
    have X8 := Ext.gr (Ext.refl w) E6
    refine wp_seq_k fun K9 hK9 => ?_
    refine wp_region_lit ?_
    refine q_is (l' := [(.slice p_xs L_xs.length q_xs), (.func (.func f_f) s_f c_f), Ud, Ud, (u4 4), (u4 5), (.slice p_xs L_xs.length q_xs), (Iv (L_xs.length : Int)), (Iv (k : Int)), (Bo (icmp .lss (k : Int) (L_xs.length : Int))), (u4 10), (u4 11), (u4 12), (u4 13), (u4 14), (u4 15), (u4 16), (u4 17), (u4 18)]) rfl rfl (does_icmp (p := (k : Int)) (q := (L_xs.length : Int)) (.inr (.inr (.inl rfl))) (ev rfl) (ev rfl)) rfl ?_
    refine wpList_nil (hK9 _ _ ?_)
    refine wp_seq_k fun K10 hK10 => ?_
    refine wp_cond_split (t := icmp .lss (k : Int) (L_xs.length : Int)) (ev rfl) (fun c11 => ?_) (fun c11 => ?_)
    · have c11' := c11
      (try simp only [icmp, Bool.and_eq_true, Bool.or_eq_true, Bool.and_eq_false_iff, Bool.or_eq_false_iff, Bool.not_eq_true', Bool.not_eq_false', decide_eq_true_eq, decide_eq_false_iff_not, beq_iff_eq, bne_iff_ne, beq_eq_false_iff_ne, bne_eq_false_iff_eq] at c11')
      refine wp_skip (hK10 _ _ ?_)
      refine wp_seq_k fun K12 hK12 => ?_
      refine wp_block ?_
      refine wp_seq_k fun K13 hK13 => ?_
      refine wp_region_lit ?_
      refine q_is (l' := [(.slice p_xs L_xs.length q_xs), (.func (.func f_f) s_f c_f), Ud, Ud, (u4 4), (u4 5), (.slice p_xs L_xs.length q_xs), (Iv (L_xs.length : Int)), (Iv (k : Int)), (Bo (icmp .lss (k : Int) (L_xs.length : Int))), (Iv (k : Int)), (u4 11), (u4 12), (u4 13), (u4 14), (u4 15), (u4 16), (u4 17), (u4 18)]) rfl rfl (does_move (u := (Iv (k : Int))) (ev rfl)) rfl ?_
      refine q_is (l' := [(.slice p_xs L_xs.length q_xs), (.func (.func f_f) s_f c_f), Ud, Ud, (u4 4), (Iv (k : Int)), (.slice p_xs L_xs.length q_xs), (Iv (L_xs.length : Int)), (Iv (k : Int)), (Bo (icmp .lss (k : Int) (L_xs.length : Int))), (Iv (k : Int)), (u4 11), (u4 12), (u4 13), (u4 14), (u4 15), (u4 16), (u4 17), (u4 18)]) rfl rfl (does_assign (u := (Iv (k : Int))) (ev rfl)) rfl ?_
      refine wpList_nil (hK13 _ _ ?_)
      refine wp_seq_k fun K14 hK14 => ?_
      refine wp_region_lit ?_
      refine q_is (l' := [(.slice p_xs L_xs.length q_xs), (.func (.func f_f) s_f c_f), Ud, Ud, (u4 4), (Iv (k : Int)), (.slice p_xs L_xs.length q_xs), (Iv (L_xs.length : Int)), (Iv (k : Int)), (Bo (icmp .lss (k : Int) (L_xs.length : Int))), (Iv (k : Int)), (.func (.func f_f) s_f c_f), (u4 12), (u4 13), (u4 14), (u4 15), (u4 16), (u4 17), (u4 18)]) rfl rfl (does_move (u := (.func (.func f_f) s_f c_f)) (ev rfl)) rfl ?_
      refine q_is (l' := [(.slice p_xs L_xs.length q_xs), (.func (.func f_f) s_f c_f), Ud, Ud, (u4 4), (Iv (k : Int)), (.slice p_xs L_xs.length q_xs), (Iv (L_xs.length : Int)), (Iv (k : Int)), (Bo (icmp .lss (k : Int) (L_xs.length : Int))), (Iv (k : Int)), (.func (.func f_f) s_f c_f), (.slice p_xs L_xs.length q_xs), (u4 13), (u4 14), (u4 15), (u4 16), (u4 17), (u4 18)]) rfl rfl (does_move (u := (.slice p_xs L_xs.length q_xs)) (ev rfl)) rfl ?_
      refine q_is (l' := [(.slice p_xs L_xs.length q_xs), (.func (.func f_f) s_f c_f), Ud, Ud, (u4 4), (Iv (k : Int)), (.slice p_xs L_xs.length q_xs), (Iv (L_xs.length : Int)), (Iv (k : Int)), (Bo (icmp .lss (k : Int) (L_xs.length : Int))), (Iv (k : Int)), (.func (.func f_f) s_f c_f), (.slice p_xs L_xs.length q_xs), (Iv (k : Int)), (u4 14), (u4 15), (u4 16), (u4 17), (u4 18)]) rfl rfl (does_move (u := (Iv (k : Int))) (ev rfl)) rfl ?_
      obtain ⟨el1, hel1⟩ : ∃ e, L_xs[k]? = some e := ⟨_, List.getElem?_eq_getElem (by omega)⟩
      refine seqd rfl rfl (does_indexSl (R := RF) (i := (k : Int)) (xs := L_xs) (e := el1) Try.underlying75 Try.sizeOf24 (ev rfl) (ev rfl) (Sl.ext hv_xs RF.mono X8) (by omega) hel1) ?_; rintro _ w5 ⟨b15, o16, _, rfl, hc18, ⟨r19, rfl, h20⟩, rfl⟩
      show wpList _ _ _ _ (fr [(.slice p_xs L_xs.length q_xs), (.func (.func f_f) s_f c_f), Ud, Ud, (u4 4), (Iv (k : Int)), (.slice p_xs L_xs.length q_xs), (Iv (L_xs.length : Int)), (Iv (k : Int)), (Bo (icmp .lss (k : Int) (L_xs.length : Int))), (Iv (k : Int)), (.func (.func f_f) s_f c_f), (.slice p_xs L_xs.length q_xs), (Iv (k : Int)), (Pt b15 o16), (u4 15), (u4 16), (u4 17), (u4 18)]) _
      refine q_is (l' := [(.slice p_xs L_xs.length q_xs), (.func (.func f_f) s_f c_f), Ud, Ud, (u4 4), (Iv (k : Int)), (.slice p_xs L_xs.length q_xs), (Iv (L_xs.length : Int)), (Iv (k : Int)), (Bo (icmp .lss (k : Int) (L_xs.length : Int))), (Iv (k : Int)), (.func (.func f_f) s_f c_f), (.slice p_xs L_xs.length q_xs), (Iv (k : Int)), (Pt b15 o16), (Fl r19), (u4 16), (u4 17), (u4 18)]) rfl rfl (does_load (u := (Fl r19)) (ev rfl) Try.isAgg24 (Cells.at hc18 0 rfl)) rfl ?_
      refine seqd rfl rfl (does_callf (args := #[(Fl r19)]) (ev rfl) hcal_f (evs rfl) (hg_f r19 _ X8)) ?_; rintro _ w22 ⟨E21, rfl⟩
      have X23 := Ext.gr X8 E21
      show wpList _ _ _ _ (fr [(.slice p_xs L_xs.length q_xs), (.func (.func f_f) s_f c_f), Ud, Ud, (u4 4), (Iv (k : Int)), (.slice p_xs L_xs.length q_xs), (Iv (L_xs.length : Int)), (Iv (k : Int)), (Bo (icmp .lss (k : Int) (L_xs.length : Int))), (Iv (k : Int)), (.func (.func f_f) s_f c_f), (.slice p_xs L_xs.length q_xs), (Iv (k : Int)), (Pt b15 o16), (Fl r19), (Bo (pr_f (cf .f32 r19))), (u4 17), (u4 18)]) _
      refine wpList_nil (hK14 _ _ ?_)
      refine wp_cond_split (t := pr_f (cf .f32 r19)) (ev rfl) (fun c24 => ?_) (fun c24 => ?_)
      · have c24' := c24
        refine wp_seq_k fun K25 hK25 => ?_
        refine wp_region_lit ?_
        refine q_is (l' := [(.slice p_xs L_xs.length q_xs), (.func (.func f_f) s_f c_f), Ud, Ud, (u4 4), (Iv (k : Int)), (.slice p_xs L_xs.length q_xs), (Iv (L_xs.length : Int)), (Iv (k : Int)), (Bo (icmp .lss (k : Int) (L_xs.length : Int))), (Iv (k : Int)), (.func (.func f_f) s_f c_f), (.slice p_xs L_xs.length q_xs), (Iv (k : Int)), (Pt b15 o16), (Fl r19), (Bo (pr_f (cf .f32 r19))), (Iv (k : Int)), (u4 18)]) rfl rfl (does_move (u := (Iv (k : Int))) (ev rfl)) rfl ?_
        refine q_is (l' := [(.slice p_xs L_xs.length q_xs), (.func (.func f_f) s_f c_f), Ud, Ud, (Iv (k : Int)), (Iv (k : Int)), (.slice p_xs L_xs.length q_xs), (Iv (L_xs.length : Int)), (Iv (k : Int)), (Bo (icmp .lss (k : Int) (L_xs.length : Int))), (Iv (k : Int)), (.func (.func f_f) s_f c_f), (.slice p_xs L_xs.length q_xs), (Iv (k : Int)), (Pt b15 o16), (Fl r19), (Bo (pr_f (cf .f32 r19))), (Iv (k : Int)), (u4 18)]) rfl rfl (does_assign (u := (Iv (k : Int))) (ev rfl)) rfl ?_
        refine wpList_nil (hK25 _ _ ?_)
        refine wp_ret ?_
        dsimp only [Exit.then, Exit.inBlock]
        refine ret_val (v := (Iv (k : Int))) (res_T rfl (slot rfl)) X23 ?_
        try simp only [hel1, h20] at c11 c24
        have x26 : (findI pr_f L_xs : Int) = (k : Int) := by first | exact findI_at hno (by assumption) (by simp_all) | exact findI_none hno (by omega)
        exact (by first | rfl | rw [x26])
      have c24' := c24
      refine wp_skip (hK12 _ _ ?_)
      refine wp_region_lit ?_
      refine q_is (l' := [(.slice p_xs L_xs.length q_xs), (.func (.func f_f) s_f c_f), Ud, Ud, (u4 4), (Iv (k : Int)), (.slice p_xs L_xs.length q_xs), (Iv (L_xs.length : Int)), (Iv (k : Int)), (Bo (icmp .lss (k : Int) (L_xs.length : Int))), (Iv (k : Int)), (.func (.func f_f) s_f c_f), (.slice p_xs L_xs.length q_xs), (Iv (k : Int)), (Pt b15 o16), (Fl r19), (Bo (pr_f (cf .f32 r19))), (u4 17), (Iv ((k : Int) + 1))]) rfl rfl (does_iarith (p := (k : Int)) (q := 1) (r := (k : Int) + 1) (ev rfl) (ev rfl) (.inl ⟨rfl, (in_i64 (by omega) (by omega)).symm⟩)) rfl ?_
      refine q_is (l' := [(.slice p_xs L_xs.length q_xs), (.func (.func f_f) s_f c_f), Ud, Ud, (u4 4), (Iv (k : Int)), (.slice p_xs L_xs.length q_xs), (Iv (L_xs.length : Int)), (Iv ((k : Int) + 1)), (Bo (icmp .lss (k : Int) (L_xs.length : Int))), (Iv (k : Int)), (.func (.func f_f) s_f c_f), (.slice p_xs L_xs.length q_xs), (Iv (k : Int)), (Pt b15 o16), (Fl r19), (Bo (pr_f (cf .f32 r19))), (u4 17), (Iv ((k : Int) + 1))]) rfl rfl (does_move (u := (Iv ((k : Int) + 1))) (ev rfl)) rfl ?_
      refine wpList_nil ?_
      refine ⟨k + 1, ⟨fun t => (([(.slice p_xs L_xs.length q_xs), (.func (.func f_f) s_f c_f), Ud, Ud, (u4 4), (Iv (k : Int)), (.slice p_xs L_xs.length q_xs), (Iv (L_xs.length : Int)), (Iv ((k : Int) + 1)), (Bo (icmp .lss (k : Int) (L_xs.length : Int))), (Iv (k : Int)), (.func (.func f_f) s_f c_f), (.slice p_xs L_xs.length q_xs), (Iv (k : Int)), (Pt b15 o16), (Fl r19), (Bo (pr_f (cf .f32 r19))), (u4 17), (Iv ((k : Int) + 1))] : List Value)[t]?).getD undef, ?_, (Ext.gr E6 E21), ?_⟩, ?_⟩
      · first | rfl | (simp only [Nat.cast_add, Nat.cast_one, Int.natCast_add, Int.natCast_one]; rfl)
      · exact ⟨by omega, NoneTo.step hno (by assumption) (by simp_all)⟩
      · omega
    have c11' := c11
    (try simp only [icmp, Bool.and_eq_true, Bool.or_eq_true, Bool.and_eq_false_iff, Bool.or_eq_false_iff, Bool.not_eq_true', Bool.not_eq_false', decide_eq_true_eq, decide_eq_false_iff_not, beq_iff_eq, bne_iff_ne, beq_eq_false_iff_ne, bne_eq_false_iff_eq] at c11')
    refine wp_exit ?_
    refine hK2 _ _ ?_
    refine wp_seq_k fun K27 hK27 => ?_
    refine wp_region_lit ?_
    refine q_is (l' := [(.slice p_xs L_xs.length q_xs), (.func (.func f_f) s_f c_f), Ud, Ud, (Iv (-1)), (u4 5), (.slice p_xs L_xs.length q_xs), (Iv (L_xs.length : Int)), (Iv (k : Int)), (Bo (icmp .lss (k : Int) (L_xs.length : Int))), (u4 10), (u4 11), (u4 12), (u4 13), (u4 14), (u4 15), (u4 16), (u4 17), (u4 18)]) rfl rfl (does_assign (u := (Iv (-1))) (ev rfl)) rfl ?_
    refine wpList_nil (hK27 _ _ ?_)
    refine wp_ret ?_
    refine ret_val (v := (Iv (-1))) (res_T rfl (slot rfl)) X8 ?_
    have x28 : (findI pr_f L_xs : Int) = (-1) := by first | exact findI_at hno (by assumption) (by simp_all) | exact findI_none hno (by omega)
    exact (by first | rfl | rw [x28])

/- slices.ContainsFunc[[]float32,float32] -/
theorem c_slices_ContainsFunc_float32_float32 (xs : Value) (L_xs : List Nat) (f : Value) (pr_f : Nat → Bool) (w : World) (hv_xs : Sl RF 1 w xs L_xs) (hv_f : TellsF Try.prog f w pr_f) : Gives Try.prog 108 #[xs, f] w (fun v w' => v = (Bo (L_xs.any pr_f))) := by
  have hlen_xs := Sl.len hv_xs; obtain ⟨p_xs, q_xs, rfl⟩ := Sl.shape hv_xs
  obtain ⟨f_f, s_f, c_f, rfl, hcal_f, hg_f⟩ := hv_f
  refine enter [(.slice p_xs L_xs.length q_xs), (.func (.func f_f) s_f c_f), Ud, Ud, Ud, Ud, Ud, Ud, Ud] Try.func108 rfl Try.ntmps108 rfl ?_
  refine wp_seq_k fun K1 hK1 => ?_
  refine wp_region_lit ?_
  refine q_is (l' := [(.slice p_xs L_xs.length q_xs), (.func (.func f_f) s_f c_f), Ud, Ud, (Bo false), Ud, Ud, Ud, Ud]) rfl rfl (does_assign (u := (Bo false)) (ev rfl)) rfl ?_
  refine wpList_nil (hK1 _ _ ?_)
  refine wp_seq_k fun K2 hK2 => ?_
  refine wp_region_lit ?_
  refine q_is (l' := [(.slice p_xs L_xs.length q_xs), (.func (.func f_f) s_f c_f), Ud, Ud, (Bo false), (.slice p_xs L_xs.length q_xs), Ud, Ud, Ud]) rfl rfl (does_move (u := (.slice p_xs L_xs.length q_xs)) (ev rfl)) rfl ?_
  refine q_is (l' := [(.slice p_xs L_xs.length q_xs), (.func (.func f_f) s_f c_f), Ud, Ud, (Bo false), (.slice p_xs L_xs.length q_xs), (.func (.func f_f) s_f c_f), Ud, Ud]) rfl rfl (does_move (u := (.func (.func f_f) s_f c_f)) (ev rfl)) rfl ?_
  refine seqd rfl rfl (does_call (args := #[(.slice p_xs L_xs.length q_xs), (.func (.func f_f) s_f c_f)]) cal115 (evs rfl) (c_slices_IndexFunc_float32_float32 (.slice p_xs L_xs.length q_xs) L_xs (.func (.func f_f) s_f c_f) pr_f _ hv_xs ⟨_, _, _, rfl, hcal_f, fun r u hu' => hg_f r u (Ext.gr (Ext.refl w) hu')⟩)) ?_; rintro _ w4 ⟨E3, rfl⟩
  have X5 := Ext.gr (Ext.refl w) E3
  show wpList _ _ _ _ (fr [(.slice p_xs L_xs.length q_xs), (.func (.func f_f) s_f c_f), Ud, Ud, (Bo false), (.slice p_xs L_xs.length q_xs), (.func (.func f_f) s_f c_f), (Iv (findI pr_f L_xs)), Ud]) _
  refine q_is (l' := [(.slice p_xs L_xs.length q_xs), (.func (.func f_f) s_f c_f), Ud, Ud, (Bo false), (.slice p_xs L_xs.length q_xs), (.func (.func f_f) s_f c_f), (Iv (findI pr_f L_xs)), (Bo (icmp .geq (findI pr_f L_xs) 0))]) rfl rfl (does_icmp (p := findI pr_f L_xs) (q := 0) (.inr (.inr (.inr (.inr (.inr rfl))))) (ev rfl) (ev rfl)) rfl ?_
  refine q_is (l' := [(.slice p_xs L_xs.length q_xs), (.func (.func f_f) s_f c_f), Ud, Ud, (Bo (icmp .geq (findI pr_f L_xs) 0)), (.slice p_xs L_xs.length q_xs), (.func (.func f_f) s_f c_f), (Iv (findI pr_f L_xs)), (Bo (icmp .geq (findI pr_f L_xs) 0))]) rfl rfl (does_assign (u := (Bo (icmp .geq (findI pr_f L_xs) 0))) (ev rfl)) rfl ?_
  refine wpList_nil (hK2 _ _ ?_)
  refine wp_ret ?_
  refine ret_val (v := (Bo (icmp .geq (findI pr_f L_xs) 0))) (res_T rfl (slot rfl)) X5 ?_
  have x6 : (L_xs.any pr_f) = (icmp .geq (findI pr_f L_xs) 0) := by first | with_reducible rfl | (simp only [findI_any]; done) | (simp [findI_any]; done) | rfl
  exact (by first | rfl | rw [x6])

/- impl.IsFinite -/
theorem c_impl_IsFinite (x : Nat) (w : World) : Gives Try.prog 104 #[(Fl x)] w (fun v w' => v = (Bo (finF (cf .f32 x)))) := by
  refine enter [(Fl x), Ud, Ud, Ud, Ud, Ud, Ud] Try.func104 rfl Try.ntmps104 rfl ?_
  refine wp_seq_k fun K1 hK1 => ?_
  refine wp_region_lit ?_
  refine q_is (l' := [(Fl x), Ud, (Bo false), Ud, Ud, Ud, Ud]) rfl rfl (does_assign (u := (Bo false)) (ev rfl)) rfl ?_
  refine wpList_nil (hK1 _ _ ?_)
  refine wp_seq_k fun K2 hK2 => ?_
  refine wp_region_lit ?_
  refine q_is (l' := [(Fl x), Ud, (Bo false), (Fl x), Ud, Ud, Ud]) rfl rfl (does_move (u := (Fl x)) (ev rfl)) rfl ?_
  refine q_is (l' := [(Fl x), Ud, (Bo false), (Fl x), (Fl x), Ud, Ud]) rfl rfl (does_move (u := (Fl x)) (ev rfl)) rfl ?_
  refine seqd rfl rfl (does_float (.inr (.inl rfl)) (ev rfl) (ev rfl)) ?_; rintro _ w6 ⟨r3, rfl, h4, E5⟩
  have X7 := Ext.gr (Ext.refl w) E5
  show wpList _ _ _ _ (fr [(Fl x), Ud, (Bo false), (Fl x), (Fl x), (Fl r3), Ud]) _
  refine q_is (l' := [(Fl x), Ud, (Bo false), (Fl x), (Fl x), (Fl r3), (Bo (fcmp .eql (ford .f32 (cf .f32 r3) (cf .f32 0))))]) rfl rfl (does_fcmp (.inl rfl) (ev rfl) (ev rfl)) rfl ?_
  refine q_is (l' := [(Fl x), Ud, (Bo (fcmp .eql (ford .f32 (cf .f32 r3) (cf .f32 0)))), (Fl x), (Fl x), (Fl r3), (Bo (fcmp .eql (ford .f32 (cf .f32 r3) (cf .f32 0))))]) rfl rfl (does_assign (u := (Bo (fcmp .eql (ford .f32 (cf .f32 r3) (cf .f32 0))))) (ev rfl)) rfl ?_
  refine wpList_nil (hK2 _ _ ?_)
  refine wp_ret ?_
  refine ret_val (v := (Bo (fcmp .eql (ford .f32 (cf .f32 r3) (cf .f32 0))))) (res_T rfl (slot rfl)) X7 ?_
  have x8 : (finF (cf .f32 x)) = (fcmp .eql (ford .f32 (cf .f32 r3) (cf .f32 0))) := by first | with_reducible rfl | (simp only [finF, h4]; done) | (simp [finF, h4]; done) | rfl
  exact (by first | rfl | rw [x8])

/- impl.finite$1 -/
theorem c_impl_finite_1 (x : Nat) (w : World) : Gives Try.prog 110 #[(Fl x)] w (fun v w' => v = (Bo (!finF (cf .f32 x)))) := by
  refine enter [(Fl x), Ud, Ud, Ud, Ud, Ud] Try.func110 rfl Try.ntmps110 rfl ?_
  refine wp_seq_k fun K1 hK1 => ?_
  refine wp_region_lit ?_
  refine q_is (l' := [(Fl x), Ud, (Bo false), Ud, Ud, Ud]) rfl rfl (does_assign (u := (Bo false)) (ev rfl)) rfl ?_
  refine wpList_nil (hK1 _ _ ?_)
  refine wp_seq_k fun K2 hK2 => ?_
  refine wp_region_lit ?_
  refine q_is (l' := [(Fl x), Ud, (Bo false), (Fl x), Ud, Ud]) rfl rfl (does_move (u := (Fl x)) (ev rfl)) rfl ?_
  refine seqd rfl rfl (does_call (args := #[(Fl x)]) cal104 (evs rfl) (c_impl_IsFinite x _)) ?_; rintro _ w4 ⟨E3, rfl⟩
  have X5 := Ext.gr (Ext.refl w) E3
  show wpList _ _ _ _ (fr [(Fl x), Ud, (Bo false), (Fl x), (Bo (finF (cf .f32 x))), Ud]) _
  refine q_is (l' := [(Fl x), Ud, (Bo false), (Fl x), (Bo (finF (cf .f32 x))), (Bo (!(finF (cf .f32 x))))]) rfl rfl (does_not (ev rfl)) rfl ?_
  refine q_is (l' := [(Fl x), Ud, (Bo (!(finF (cf .f32 x)))), (Fl x), (Bo (finF (cf .f32 x))), (Bo (!(finF (cf .f32 x))))]) rfl rfl (does_assign (u := (Bo (!(finF (cf .f32 x))))) (ev rfl)) rfl ?_
  refine wpList_nil (hK2 _ _ ?_)
  refine wp_ret ?_
  refine ret_val (v := (Bo (!(finF (cf .f32 x))))) (res_T rfl (slot rfl)) X5 ?_
  have x6 : (!finF (cf .f32 x)) = (!(finF (cf .f32 x))) := by first | with_reducible rfl | (simp only []; done) | (simp []; done) | rfl
  exact (by first | rfl | rw [x6])

/- impl.finite -/
theorem c_impl_finite (xs : Value) (L_xs : List Nat) (w : World) (hv_xs : Sl RF 1 w xs L_xs) : Gives Try.prog 96 #[xs] w (fun v w' => v = (Bo (!L_xs.any (fun x => !finF x)))) := by
  have hlen_xs := Sl.len hv_xs; obtain ⟨p_xs, q_xs, rfl⟩ := Sl.shape hv_xs
  refine enter [(.slice p_xs L_xs.length q_xs), Ud, Ud, Ud, Ud, Ud] Try.func96 rfl Try.ntmps96 rfl ?_
  refine wp_seq_k fun K1 hK1 => ?_
  refine wp_region_lit ?_
  refine q_is (l' := [(.slice p_xs L_xs.length q_xs), Ud, (Bo false), Ud, Ud, Ud]) rfl rfl (does_assign (u := (Bo false)) (ev rfl)) rfl ?_
  refine wpList_nil (hK1 _ _ ?_)
  refine wp_seq_k fun K2 hK2 => ?_
  refine wp_region_lit ?_
  refine q_is (l' := [(.slice p_xs L_xs.length q_xs), Ud, (Bo false), (.slice p_xs L_xs.length q_xs), Ud, Ud]) rfl rfl (does_move (u := (.slice p_xs L_xs.length q_xs)) (ev rfl)) rfl ?_
  refine seqd rfl rfl (does_call (args := #[(.slice p_xs L_xs.length q_xs), (.func (.func 110) #[] #[])]) cal108 (evs rfl) (c_slices_ContainsFunc_float32_float32 (.slice p_xs L_xs.length q_xs) L_xs (.func (.func 110) #[] #[]) (fun x => !finF x) _ hv_xs ⟨110, #[], #[], rfl, cal110, fun r u hu' => by simpa using (c_impl_finite_1 r u)⟩)) ?_; rintro _ w4 ⟨E3, rfl⟩
  have X5 := Ext.gr (Ext.refl w) E3
  show wpList _ _ _ _ (fr [(.slice p_xs L_xs.length q_xs), Ud, (Bo false), (.slice p_xs L_xs.length q_xs), (Bo (L_xs.any (fun x => !finF x))), Ud]) _
  refine q_is (l' := [(.slice p_xs L_xs.length q_xs), Ud, (Bo false), (.slice p_xs L_xs.length q_xs), (Bo (L_xs.any (fun x => !finF x))), (Bo (!(L_xs.any (fun x => !finF x))))]) rfl rfl (does_not (ev rfl)) rfl ?_
  refine q_is (l' := [(.slice p_xs L_xs.length q_xs), Ud, (Bo (!(L_xs.any (fun x => !finF x)))), (.slice p_xs L_xs.length q_xs), (Bo (L_xs.any (fun x => !finF x))), (Bo (!(L_xs.any (fun x => !finF x))))]) rfl rfl (does_assign (u := (Bo (!(L_xs.any (fun x => !finF x))))) (ev rfl)) rfl ?_
  refine wpList_nil (hK2 _ _ ?_)
  refine wp_ret ?_
  refine ret_val (v := (Bo (!(L_xs.any (fun x => !finF x))))) (res_T rfl (slot rfl)) X5 ?_
  have x6 : (!L_xs.any (fun x => !finF x)) = (!(L_xs.any (fun x => !finF x))) := by first | with_reducible rfl | (simp only []; done) | (simp []; done) | rfl
  exact (by first | rfl | rw [x6])

/- impl.finiteVector -/
theorem c_impl_finiteVector (v : List Value) (A_v : V3) (w : World) (hv_v : RV3 w A_v v) : Gives Try.prog 57 #[(.agg v.toArray)] w (fun v w' => v = (Bo (finV A_v))) := by
  obtain ⟨r1, r3, r5, rfl, h2, h4, h6⟩ := hv_v
  refine enter [(.agg #[(Fl r1), (Fl r3), (Fl r5)]), Ud, Ud, Ud, Ud, Ud, Ud, Ud, Ud, Ud, Ud] Try.func57 rfl Try.ntmps57 rfl ?_
  refine wp_seq_k fun K7 hK7 => ?_
  refine wp_region_lit ?_
  refine seqd rfl rfl (does_box (u := (.agg #[(Fl r1), (Fl r3), (Fl r5)])) (ev rfl)) ?_; rintro _ w12 ⟨b8, rfl, hb9, hB10, E11⟩
  have g13 : w.heap.size ≤ b8 := Nat.le_trans (Below.size (Ext.refl w)) hb9
  change Blk _ _ [(Fl r1), (Fl r3), (Fl r5)] at hB10
  have X14 := Ext.gr (Ext.refl w) E11
  show wpList _ _ _ _ (fr [(.agg #[(Fl r1), (Fl r3), (Fl r5)]), (Pt b8 0), Ud, Ud, Ud, Ud, Ud, Ud, Ud, Ud, Ud]) _
  refine q_is (l' := [(.agg #[(Fl r1), (Fl r3), (Fl r5)]), (Pt b8 0), (Bo false), Ud, Ud, Ud, Ud, Ud, Ud, Ud, Ud]) rfl rfl (does_assign (u := (Bo false)) (ev rfl)) rfl ?_
  refine wpList_nil (hK7 _ _ ?_)
  refine wp_seq_k fun K15 hK15 => ?_
  refine wp_region_lit ?_
  refine q_is (l' := [(.agg #[(Fl r1), (Fl r3), (Fl r5)]), (Pt b8 0), (Bo false), (Pt b8 0), Ud, Ud, Ud, Ud, Ud, Ud, Ud]) rfl rfl (does_fieldAddr (ev rfl) fa26_0) rfl ?_
  refine q_is (l' := [(.agg #[(Fl r1), (Fl r3), (Fl r5)]), (Pt b8 0), (Bo false), (Pt b8 0), (Fl r1), Ud, Ud, Ud, Ud, Ud, Ud]) rfl rfl (does_load (u := (Fl r1)) (ev rfl) Try.isAgg24 (Cells.at (Blk.cells hB10) 0 rfl)) rfl ?_
  refine q_is (l' := [(.agg #[(Fl r1), (Fl r3), (Fl r5)]), (Pt b8 0), (Bo false), (Pt b8 0), (Fl r1), (Pt b8 1), Ud, Ud, Ud, Ud, Ud]) rfl rfl (does_fieldAddr (ev rfl) fa26_1) rfl ?_
  refine q_is (l' := [(.agg #[(Fl r1), (Fl r3), (Fl r5)]), (Pt b8 0), (Bo false), (Pt b8 0), (Fl r1), (Pt b8 1), (Fl r3), Ud, Ud, Ud, Ud]) rfl rfl (does_load (u := (Fl r3)) (ev rfl) Try.isAgg24 (Cells.at (Blk.cells hB10) 1 rfl)) rfl ?_
  refine q_is (l' := [(.agg #[(Fl r1), (Fl r3), (Fl r5)]), (Pt b8 0), (Bo false), (Pt b8 0), (Fl r1), (Pt b8 1), (Fl r3), (Pt b8 2), Ud, Ud, Ud]) rfl rfl (does_fieldAddr (ev rfl) fa26_2) rfl ?_
  refine q_is (l' := [(.agg #[(Fl r1), (Fl r3), (Fl r5)]), (Pt b8 0), (Bo false), (Pt b8 0), (Fl r1), (Pt b8 1), (Fl r3), (Pt b8 2), (Fl r5), Ud, Ud]) rfl rfl (does_load (u := (Fl r5)) (ev rfl) Try.isAgg24 (Cells.at (Blk.cells hB10) 2 rfl)) rfl ?_
  refine seqd rfl rfl (does_buildSlice (e := 24) (parts' := [(0, (Fl r1)), (1, (Fl r3)), (2, (Fl r5))]) (cells := [(Fl r1), (Fl r3), (Fl r5)]) (evp rfl) (fun _ => by kernel_rfl)) ?_; rintro _ w20 ⟨b16, rfl, hb17, hB18, E19⟩
  have n21 : b8 < b16 := Nat.lt_of_lt_of_le (Blk.lt hB10) hb17
  have g22 : w.heap.size ≤ b16 := Nat.le_trans (Below.size X14) hb17
  have X23 := Ext.gr X14 E19
  show wpList _ _ _ _ (fr [(.agg #[(Fl r1), (Fl r3), (Fl r5)]), (Pt b8 0), (Bo false), (Pt b8 0), (Fl r1), (Pt b8 1), (Fl r3), (Pt b8 2), (Fl r5), (.slice (some ⟨b16, 0, none⟩) 3 3), Ud]) _
  refine seqd rfl rfl (does_call (args := #[(.slice (some ⟨b16, 0, none⟩) 3 3)]) cal96 (evs rfl) (c_impl_finite (.slice (some ⟨b16, 0, none⟩) 3 3) [(cf .f32 r1), (cf .f32 r3), (cf .f32 r5)] _ (Sl_lit3 hB18 ⟨_, rfl, rfl⟩ ⟨_, rfl, rfl⟩ ⟨_, rfl, rfl⟩))) ?_; rintro _ w25 ⟨E24, rfl⟩
  have X26 := Ext.gr X23 E24
  show wpList _ _ _ _ (fr [(.agg #[(Fl r1), (Fl r3), (Fl r5)]), (Pt b8 0), (Bo false), (Pt b8 0), (Fl r1), (Pt b8 1), (Fl r3), (Pt b8 2), (Fl r5), (.slice (some ⟨b16, 0, none⟩) 3 3), (Bo (!([(cf .f32 r1), (cf .f32 r3), (cf .f32 r5)]).any (fun x => !finF x)))]) _
  refine q_is (l' := [(.agg #[(Fl r1), (Fl r3), (Fl r5)]), (Pt b8 0), (Bo (!([(cf .f32 r1), (cf .f32 r3), (cf .f32 r5)]).any (fun x => !finF x))), (Pt b8 0), (Fl r1), (Pt b8 1), (Fl r3), (Pt b8 2), (Fl r5), (.slice (some ⟨b16, 0, none⟩) 3 3), (Bo (!([(cf .f32 r1), (cf .f32 r3), (cf .f32 r5)]).any (fun x => !finF x)))]) rfl rfl (does_assign (u := (Bo (!([(cf .f32 r1), (cf .f32 r3), (cf .f32 r5)]).any (fun x => !finF x)))) (ev rfl)) rfl ?_
  refine wpList_nil (hK15 _ _ ?_)
  refine wp_ret ?_
  refine ret_val (v := (Bo (!([(cf .f32 r1), (cf .f32 r3), (cf .f32 r5)]).any (fun x => !finF x)))) (res_T rfl (slot rfl)) X26 ?_
  have x27 : (finV A_v) = (!([(cf .f32 r1), (cf .f32 r3), (cf .f32 r5)]).any (fun x => !finF x)) := by first | with_reducible rfl | (simp only [finV, any3_finF, h2, h4, h6]; done) | (simp [finV, any3_finF, h2, h4, h6]; done) | rfl
  exact (by first | rfl | rw [x27])

end Go.Proofs.Ytbbidfadenmmjaa
