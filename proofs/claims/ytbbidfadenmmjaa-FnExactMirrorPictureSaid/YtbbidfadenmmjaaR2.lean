/- contracts of functions, each walked once -/
import Derived.Test.YtbbidfadenmmjaaR
namespace Go.Proofs.Ytbbidfadenmmjaa
open Go Go.RowKit
set_option maxRecDepth 100000
set_option maxHeartbeats 3200000
set_option linter.unusedVariables false
set_option linter.unusedSimpArgs false

/- spec.l09Ray -/
theorem c_spec_l09Ray (c_b : Nat) (c_o : Nat) (c : List Value) (A_c : CamT) (x : Int) (y : Int) (w : World) (hc_c : Cells w c_b c_o c) (hv_c : RCamT w A_c c) : Gives Try.prog 71 #[(Pt c_b c_o), (Iv x), (Iv y)] w (fun v w' => ∃ cs_1 : List Value, v = (.agg cs_1.toArray) ∧ RRayT w (rayC A_c x y) cs_1) := by
  obtain ⟨r1, r3, r5, r7, r9, r11, r13, rfl, h2, h4, h6, h8, h10, h12, h14⟩ := hv_c
  refine enter [(Pt c_b c_o), (Iv x), (Iv y), Ud, Ud, Ud, Ud, Ud, Ud, Ud, Ud, Ud, Ud, Ud, Ud, Ud, Ud, Ud, Ud, Ud, Ud, Ud, Ud, Ud, Ud, Ud, Ud, Ud, Ud, Ud, Ud, Ud, Ud, Ud, Ud, Ud, Ud, Ud, Ud, Ud, Ud, Ud, Ud, Ud, Ud, Ud, Ud, Ud, Ud, Ud, Ud, Ud, Ud, Ud, Ud, Ud, Ud, Ud, Ud, Ud, Ud, Ud, Ud, Ud, Ud, Ud, Ud, Ud, Ud, Ud, Ud, Ud, Ud, Ud, Ud, Ud] Try.func71 rfl Try.ntmps71 rfl ?_
  refine wp_seq_k fun K15 hK15 => ?_
  refine wp_region_lit ?_
  refine seqd rfl rfl (does_alloc z64) ?_; rintro _ w20 ⟨b16, rfl, hb17, hB18, E19⟩
  have n21 : c_b < b16 := Nat.lt_of_lt_of_le (cell_lt (Cells.at hc_c 0 rfl)) hb17
  have g22 : w.heap.size ≤ b16 := Nat.le_trans (Below.size (Ext.refl w)) hb17
  change Blk _ _ [(Fl 0), (Fl 0), (Fl 0), (Fl 0), (Fl 0), (Fl 0)] at hB18
  have X23 := Ext.gr (Ext.refl w) E19
  show wpList _ _ _ _ (fr [(Pt c_b c_o), (Iv x), (Iv y), Ud, Ud, Ud, (Pt b16 0), Ud, Ud, Ud, Ud, Ud, Ud, Ud, Ud, Ud, Ud, Ud, Ud, Ud, Ud, Ud, Ud, Ud, Ud, Ud, Ud, Ud, Ud, Ud, Ud, Ud, Ud, Ud, Ud, Ud, Ud, Ud, Ud, Ud, Ud, Ud, Ud, Ud, Ud, Ud, Ud, Ud, Ud, Ud, Ud, Ud, Ud, Ud, Ud, Ud, Ud, Ud, Ud, Ud, Ud, Ud, Ud, Ud, Ud, Ud, Ud, Ud, Ud, Ud, Ud, Ud, Ud, Ud, Ud, Ud]) _
  refine wpList_nil (hK15 _ _ ?_)
  refine wp_seq_k fun K24 hK24 => ?_
  refine wp_region_lit ?_
  refine q_is (l' := [(Pt c_b c_o), (Iv x), (Iv y), Ud, Ud, Ud, (Pt b16 0), Ud, Ud, Ud, Ud, Ud, Ud, Ud, Ud, Ud, (Pt c_b c_o), Ud, Ud, Ud, Ud, Ud, Ud, Ud, Ud, Ud, Ud, Ud, Ud, Ud, Ud, Ud, Ud, Ud, Ud, Ud, Ud, Ud, Ud, Ud, Ud, Ud, Ud, Ud, Ud, Ud, Ud, Ud, Ud, Ud, Ud, Ud, Ud, Ud, Ud, Ud, Ud, Ud, Ud, Ud, Ud, Ud, Ud, Ud, Ud, Ud, Ud, Ud, Ud, Ud, Ud, Ud, Ud, Ud, Ud, Ud]) rfl rfl (does_move (u := (Pt c_b c_o)) (ev rfl)) rfl ?_
  refine seqd rfl rfl (does_call (args := #[(Pt c_b c_o)]) cal69 (evs rfl) (c_spec_l09Axes c_b c_o [(Fl r1), (Fl r3), (Fl r5), (Fl r7), (Fl r9), (Fl r11), (Fl r13), (Iv A_c.width), (Iv A_c.height)] A_c _ (hc_c.ext X23) ⟨r1, r3, r5, r7, r9, r11, r13, rfl, h2, h4, h6, h8, h10, h12, h14⟩)) ?_; rintro _ w26 ⟨E25, ⟨_, _, _, rfl, ⟨r27, r29, r31, rfl, h28, h30, h32⟩, ⟨r33, r35, r37, rfl, h34, h36, h38⟩, ⟨r39, r41, r43, rfl, h40, h42, h44⟩⟩⟩
  have X45 := Ext.gr X23 E25
  show wpList _ _ _ _ (fr [(Pt c_b c_o), (Iv x), (Iv y), Ud, Ud, Ud, (Pt b16 0), Ud, Ud, Ud, Ud, Ud, Ud, Ud, Ud, Ud, (Pt c_b c_o), (.tuple #[(.agg #[(Fl r27), (Fl r29), (Fl r31)]), (.agg #[(Fl r33), (Fl r35), (Fl r37)]), (.agg #[(Fl r39), (Fl r41), (Fl r43)])]), Ud, Ud, Ud, Ud, Ud, Ud, Ud, Ud, Ud, Ud, Ud, Ud, Ud, Ud, Ud, Ud, Ud, Ud, Ud, Ud, Ud, Ud, Ud, Ud, Ud, Ud, Ud, Ud, Ud, Ud, Ud, Ud, Ud, Ud, Ud, Ud, Ud, Ud, Ud, Ud, Ud, Ud, Ud, Ud, Ud, Ud, Ud, Ud, Ud, Ud, Ud, Ud, Ud, Ud, Ud, Ud, Ud, Ud]) _
  refine q_is (l' := [(Pt c_b c_o), (Iv x), (Iv y), Ud, Ud, Ud, (Pt b16 0), Ud, Ud, Ud, Ud, Ud, Ud, Ud, Ud, (.tuple #[(.agg #[(Fl r27), (Fl r29), (Fl r31)]), (.agg #[(Fl r33), (Fl r35), (Fl r37)]), (.agg #[(Fl r39), (Fl r41), (Fl r43)])]), (Pt c_b c_o), (.tuple #[(.agg #[(Fl r27), (Fl r29), (Fl r31)]), (.agg #[(Fl r33), (Fl r35), (Fl r37)]), (.agg #[(Fl r39), (Fl r41), (Fl r43)])]), Ud, Ud, Ud, Ud, Ud, Ud, Ud, Ud, Ud, Ud, Ud, Ud, Ud, Ud, Ud, Ud, Ud, Ud, Ud, Ud, Ud, Ud, Ud, Ud, Ud, Ud, Ud, Ud, Ud, Ud, Ud, Ud, Ud, Ud, Ud, Ud, Ud, Ud, Ud, Ud, Ud, Ud, Ud, Ud, Ud, Ud, Ud, Ud, Ud, Ud, Ud, Ud, Ud, Ud, Ud, Ud, Ud, Ud]) rfl rfl (does_move (u := (.tuple #[(.agg #[(Fl r27), (Fl r29), (Fl r31)]), (.agg #[(Fl r33), (Fl r35), (Fl r37)]), (.agg #[(Fl r39), (Fl r41), (Fl r43)])])) (ev rfl)) rfl ?_
  refine q_is (l' := [(Pt c_b c_o), (Iv x), (Iv y), Ud, Ud, Ud, (Pt b16 0), Ud, Ud, Ud, Ud, Ud, Ud, Ud, Ud, (.tuple #[(.agg #[(Fl r27), (Fl r29), (Fl r31)]), (.agg #[(Fl r33), (Fl r35), (Fl r37)]), (.agg #[(Fl r39), (Fl r41), (Fl r43)])]), (Pt c_b c_o), (.tuple #[(.agg #[(Fl r27), (Fl r29), (Fl r31)]), (.agg #[(Fl r33), (Fl r35), (Fl r37)]), (.agg #[(Fl r39), (Fl r41), (Fl r43)])]), (.agg #[(Fl r27), (Fl r29), (Fl r31)]), Ud, Ud, Ud, Ud, Ud, Ud, Ud, Ud, Ud, Ud, Ud, Ud, Ud, Ud, Ud, Ud, Ud, Ud, Ud, Ud, Ud, Ud, Ud, Ud, Ud, Ud, Ud, Ud, Ud, Ud, Ud, Ud, Ud, Ud, Ud, Ud, Ud, Ud, Ud, Ud, Ud, Ud, Ud, Ud, Ud, Ud, Ud, Ud, Ud, Ud, Ud, Ud, Ud, Ud, Ud, Ud, Ud]) rfl rfl (does_extract (vs := #[(.agg #[(Fl r27), (Fl r29), (Fl r31)]), (.agg #[(Fl r33), (Fl r35), (Fl r37)]), (.agg #[(Fl r39), (Fl r41), (Fl r43)])]) (u := (.agg #[(Fl r27), (Fl r29), (Fl r31)])) (ev rfl) rfl) rfl ?_
  refine q_is (l' := [(Pt c_b c_o), (Iv x), (Iv y), Ud, Ud, Ud, (Pt b16 0), Ud, Ud, Ud, Ud, Ud, Ud, Ud, Ud, (.tuple #[(.agg #[(Fl r27), (Fl r29), (Fl r31)]), (.agg #[(Fl r33), (Fl r35), (Fl r37)]), (.agg #[(Fl r39), (Fl r41), (Fl r43)])]), (Pt c_b c_o), (.tuple #[(.agg #[(Fl r27), (Fl r29), (Fl r31)]), (.agg #[(Fl r33), (Fl r35), (Fl r37)]), (.agg #[(Fl r39), (Fl r41), (Fl r43)])]), (.agg #[(Fl r27), (Fl r29), (Fl r31)]), (.agg #[(Fl r33), (Fl r35), (Fl r37)]), Ud, Ud, Ud, Ud, Ud, Ud, Ud, Ud, Ud, Ud, Ud, Ud, Ud, Ud, Ud, Ud, Ud, Ud, Ud, Ud, Ud, Ud, Ud, Ud, Ud, Ud, Ud, Ud, Ud, Ud, Ud, Ud, Ud, Ud, Ud, Ud, Ud, Ud, Ud, Ud, Ud, Ud, Ud, Ud, Ud, Ud, Ud, Ud, Ud, Ud, Ud, Ud, Ud, Ud, Ud, Ud]) rfl rfl (does_extract (vs := #[(.agg #[(Fl r27), (Fl r29), (Fl r31)]), (.agg #[(Fl r33), (Fl r35), (Fl r37)]), (.agg #[(Fl r39), (Fl r41), (Fl r43)])]) (u := (.agg #[(Fl r33), (Fl r35), (Fl r37)])) (ev rfl) rfl) rfl ?_
  refine q_is (l' := [(Pt c_b c_o), (Iv x), (Iv y), Ud, Ud, Ud, (Pt b16 0), Ud, Ud, Ud, Ud, Ud, Ud, Ud, Ud, (.tuple #[(.agg #[(Fl r27), (Fl r29), (Fl r31)]), (.agg #[(Fl r33), (Fl r35), (Fl r37)]), (.agg #[(Fl r39), (Fl r41), (Fl r43)])]), (Pt c_b c_o), (.tuple #[(.agg #[(Fl r27), (Fl r29), (Fl r31)]), (.agg #[(Fl r33), (Fl r35), (Fl r37)]), (.agg #[(Fl r39), (Fl r41), (Fl r43)])]), (.agg #[(Fl r27), (Fl r29), (Fl r31)]), (.agg #[(Fl r33), (Fl r35), (Fl r37)]), (.agg #[(Fl r39), (Fl r41), (Fl r43)]), Ud, Ud, Ud, Ud, Ud, Ud, Ud, Ud, Ud, Ud, Ud, Ud, Ud, Ud, Ud, Ud, Ud, Ud, Ud, Ud, Ud, Ud, Ud, Ud, Ud, Ud, Ud, Ud, Ud, Ud, Ud, Ud, Ud, Ud, Ud, Ud, Ud, Ud, Ud, Ud, Ud, Ud, Ud, Ud, Ud, Ud, Ud, Ud, Ud, Ud, Ud, Ud, Ud, Ud, Ud]) rfl rfl (does_extract (vs := #[(.agg #[(Fl r27), (Fl r29), (Fl r31)]), (.agg #[(Fl r33), (Fl r35), (Fl r37)]), (.agg #[(Fl r39), (Fl r41), (Fl r43)])]) (u := (.agg #[(Fl r39), (Fl r41), (Fl r43)])) (ev rfl) rfl) rfl ?_
  refine seqd rfl rfl (does_alloc z26) ?_; rintro _ w50 ⟨b46, rfl, hb47, hB48, E49⟩
  have n51 : c_b < b46 := Nat.lt_of_lt_of_le (cell_lt (Cells.at (hc_c.ext X45) 0 rfl)) hb47
  have n52 : b16 < b46 := Nat.lt_of_lt_of_le (Blk.lt (hB18.ext E25)) hb47
  have g53 : w.heap.size ≤ b46 := Nat.le_trans (Below.size X45) hb47
  change Blk _ _ [(Fl 0), (Fl 0), (Fl 0)] at hB48
  have X54 := Ext.gr X45 E49
  show wpList _ _ _ _ (fr [(Pt c_b c_o), (Iv x), (Iv y), Ud, Ud, Ud, (Pt b16 0), (Pt b46 0), Ud, Ud, Ud, Ud, Ud, Ud, Ud, (.tuple #[(.agg #[(Fl r27), (Fl r29), (Fl r31)]), (.agg #[(Fl r33), (Fl r35), (Fl r37)]), (.agg #[(Fl r39), (Fl r41), (Fl r43)])]), (Pt c_b c_o), (.tuple #[(.agg #[(Fl r27), (Fl r29), (Fl r31)]), (.agg #[(Fl r33), (Fl r35), (Fl r37)]), (.agg #[(Fl r39), (Fl r41), (Fl r43)])]), (.agg #[(Fl r27), (Fl r29), (Fl r31)]), (.agg #[(Fl r33), (Fl r35), (Fl r37)]), (.agg #[(Fl r39), (Fl r41), (Fl r43)]), Ud, Ud, Ud, Ud, Ud, Ud, Ud, Ud, Ud, Ud, Ud, Ud, Ud, Ud, Ud, Ud, Ud, Ud, Ud, Ud, Ud, Ud, Ud, Ud, Ud, Ud, Ud, Ud, Ud, Ud, Ud, Ud, Ud, Ud, Ud, Ud, Ud, Ud, Ud, Ud, Ud, Ud, Ud, Ud, Ud, Ud, Ud, Ud, Ud, Ud, Ud, Ud, Ud, Ud, Ud]) _
  refine seqd rfl rfl (does_alloc z26) ?_; rintro _ w59 ⟨b55, rfl, hb56, hB57, E58⟩
  have n60 : c_b < b55 := Nat.lt_of_lt_of_le (cell_lt (Cells.at (hc_c.ext X54) 0 rfl)) hb56
  have n61 : b16 < b55 := Nat.lt_of_lt_of_le (Blk.lt ((hB18.ext E25).ext E49)) hb56
  have n62 : b46 < b55 := Nat.lt_of_lt_of_le (Blk.lt hB48) hb56
  have g63 : w.heap.size ≤ b55 := Nat.le_trans (Below.size X54) hb56
  change Blk _ _ [(Fl 0), (Fl 0), (Fl 0)] at hB57
  have X64 := Ext.gr X54 E58
  show wpList _ _ _ _ (fr [(Pt c_b c_o), (Iv x), (Iv y), Ud, Ud, Ud, (Pt b16 0), (Pt b46 0), (Pt b55 0), Ud, Ud, Ud, Ud, Ud, Ud, (.tuple #[(.agg #[(Fl r27), (Fl r29), (Fl r31)]), (.agg #[(Fl r33), (Fl r35), (Fl r37)]), (.agg #[(Fl r39), (Fl r41), (Fl r43)])]), (Pt c_b c_o), (.tuple #[(.agg #[(Fl r27), (Fl r29), (Fl r31)]), (.agg #[(Fl r33), (Fl r35), (Fl r37)]), (.agg #[(Fl r39), (Fl r41), (Fl r43)])]), (.agg #[(Fl r27), (Fl r29), (Fl r31)]), (.agg #[(Fl r33), (Fl r35), (Fl r37)]), (.agg #[(Fl r39), (Fl r41), (Fl r43)]), Ud, Ud, Ud, Ud, Ud, Ud, Ud, Ud, Ud, Ud, Ud, Ud, Ud, Ud, Ud, Ud, Ud, Ud, Ud, Ud, Ud, Ud, Ud, Ud, Ud, Ud, Ud, Ud, Ud, Ud, Ud, Ud, Ud, Ud, Ud, Ud, Ud, Ud, Ud, Ud, Ud, Ud, Ud, Ud, Ud, Ud, Ud, Ud, Ud, Ud, Ud, Ud, Ud, Ud, Ud]) _
  refine seqd rfl rfl (does_alloc z26) ?_; rintro _ w69 ⟨b65, rfl, hb66, hB67, E68⟩
  have n70 : c_b < b65 := Nat.lt_of_lt_of_le (cell_lt (Cells.at (hc_c.ext X64) 0 rfl)) hb66
  have n71 : b16 < b65 := Nat.lt_of_lt_of_le (Blk.lt (((hB18.ext E25).ext E49).ext E58)) hb66
  have n72 : b46 < b65 := Nat.lt_of_lt_of_le (Blk.lt (hB48.ext E58)) hb66
  have n73 : b55 < b65 := Nat.lt_of_lt_of_le (Blk.lt hB57) hb66
  have g74 : w.heap.size ≤ b65 := Nat.le_trans (Below.size X64) hb66
  change Blk _ _ [(Fl 0), (Fl 0), (Fl 0)] at hB67
  have X75 := Ext.gr X64 E68
  show wpList _ _ _ _ (fr [(Pt c_b c_o), (Iv x), (Iv y), Ud, Ud, Ud, (Pt b16 0), (Pt b46 0), (Pt b55 0), (Pt b65 0), Ud, Ud, Ud, Ud, Ud, (.tuple #[(.agg #[(Fl r27), (Fl r29), (Fl r31)]), (.agg #[(Fl r33), (Fl r35), (Fl r37)]), (.agg #[(Fl r39), (Fl r41), (Fl r43)])]), (Pt c_b c_o), (.tuple #[(.agg #[(Fl r27), (Fl r29), (Fl r31)]), (.agg #[(Fl r33), (Fl r35), (Fl r37)]), (.agg #[(Fl r39), (Fl r41), (Fl r43)])]), (.agg #[(Fl r27), (Fl r29), (Fl r31)]), (.agg #[(Fl r33), (Fl r35), (Fl r37)]), (.agg #[(Fl r39), (Fl r41), (Fl r43)]), Ud, Ud, Ud, Ud, Ud, Ud, Ud, Ud, Ud, Ud, Ud, Ud, Ud, Ud, Ud, Ud, Ud, Ud, Ud, Ud, Ud, Ud, Ud, Ud, Ud, Ud, Ud, Ud, Ud, Ud, Ud, Ud, Ud, Ud, Ud, Ud, Ud, Ud, Ud, Ud, Ud, Ud, Ud, Ud, Ud, Ud, Ud, Ud, Ud, Ud, Ud, Ud, Ud, Ud, Ud]) _
  refine seqn rfl rfl (does_store (n := 3) (cs := [(Fl 0), (Fl 0), (Fl 0)]) (u := (.agg #[(Fl r27), (Fl r29), (Fl r31)])) (ev rfl) (ev rfl) Try.sizeOf26 rfl ((hB48.ext E58).ext E68) (Nat.le_of_ble_eq_true rfl) rfl) ?_; rintro _ w78 ⟨rfl, W76, hB77⟩
  change Blk _ _ [(Fl r27), (Fl r29), (Fl r31)] at hB77
  have X79 := Below.wr X75 W76 g53
  refine seqn rfl rfl (does_store (n := 3) (cs := [(Fl 0), (Fl 0), (Fl 0)]) (u := (.agg #[(Fl r33), (Fl r35), (Fl r37)])) (ev rfl) (ev rfl) Try.sizeOf26 rfl ((hB57.ext E68).wr W76 (Nat.ne_of_gt n62)) (Nat.le_of_ble_eq_true rfl) rfl) ?_; rintro _ w82 ⟨rfl, W80, hB81⟩
  change Blk _ _ [(Fl r33), (Fl r35), (Fl r37)] at hB81
  have X83 := Below.wr X79 W80 g63
  refine seqn rfl rfl (does_store (n := 3) (cs := [(Fl 0), (Fl 0), (Fl 0)]) (u := (.agg #[(Fl r39), (Fl r41), (Fl r43)])) (ev rfl) (ev rfl) Try.sizeOf26 rfl ((hB67.wr W76 (Nat.ne_of_gt n72)).wr W80 (Nat.ne_of_gt n73)) (Nat.le_of_ble_eq_true rfl) rfl) ?_; rintro _ w86 ⟨rfl, W84, hB85⟩
  change Blk _ _ [(Fl r39), (Fl r41), (Fl r43)] at hB85
  have X87 := Below.wr X83 W84 g74
  refine wpList_nil (hK24 _ _ ?_)
  refine wp_seq_k fun K88 hK88 => ?_
  refine wp_region_lit ?_
  refine q_is (l' := [(Pt c_b c_o), (Iv x), (Iv y), Ud, Ud, Ud, (Pt b16 0), (Pt b46 0), (Pt b55 0), (Pt b65 0), Ud, Ud, Ud, Ud, Ud, (.tuple #[(.agg #[(Fl r27), (Fl r29), (Fl r31)]), (.agg #[(Fl r33), (Fl r35), (Fl r37)]), (.agg #[(Fl r39), (Fl r41), (Fl r43)])]), (Pt c_b c_o), (.tuple #[(.agg #[(Fl r27), (Fl r29), (Fl r31)]), (.agg #[(Fl r33), (Fl r35), (Fl r37)]), (.agg #[(Fl r39), (Fl r41), (Fl r43)])]), (.agg #[(Fl r27), (Fl r29), (Fl r31)]), (.agg #[(Fl r33), (Fl r35), (Fl r37)]), (.agg #[(Fl r39), (Fl r41), (Fl r43)]), (Pt c_b c_o), Ud, Ud, Ud, Ud, Ud, Ud, Ud, Ud, Ud, Ud, Ud, Ud, Ud, Ud, Ud, Ud, Ud, Ud, Ud, Ud, Ud, Ud, Ud, Ud, Ud, Ud, Ud, Ud, Ud, Ud, Ud, Ud, Ud, Ud, Ud, Ud, Ud, Ud, Ud, Ud, Ud, Ud, Ud, Ud, Ud, Ud, Ud, Ud, Ud, Ud, Ud, Ud, Ud, Ud]) rfl rfl (does_move (u := (Pt c_b c_o)) (ev rfl)) rfl ?_
  refine q_is (l' := [(Pt c_b c_o), (Iv x), (Iv y), Ud, Ud, Ud, (Pt b16 0), (Pt b46 0), (Pt b55 0), (Pt b65 0), Ud, Ud, Ud, Ud, Ud, (.tuple #[(.agg #[(Fl r27), (Fl r29), (Fl r31)]), (.agg #[(Fl r33), (Fl r35), (Fl r37)]), (.agg #[(Fl r39), (Fl r41), (Fl r43)])]), (Pt c_b c_o), (.tuple #[(.agg #[(Fl r27), (Fl r29), (Fl r31)]), (.agg #[(Fl r33), (Fl r35), (Fl r37)]), (.agg #[(Fl r39), (Fl r41), (Fl r43)])]), (.agg #[(Fl r27), (Fl r29), (Fl r31)]), (.agg #[(Fl r33), (Fl r35), (Fl r37)]), (.agg #[(Fl r39), (Fl r41), (Fl r43)]), (Pt c_b c_o), (Pt c_b c_o), Ud, Ud, Ud, Ud, Ud, Ud, Ud, Ud, Ud, Ud, Ud, Ud, Ud, Ud, Ud, Ud, Ud, Ud, Ud, Ud, Ud, Ud, Ud, Ud, Ud, Ud, Ud, Ud, Ud, Ud, Ud, Ud, Ud, Ud, Ud, Ud, Ud, Ud, Ud, Ud, Ud, Ud, Ud, Ud, Ud, Ud, Ud, Ud, Ud, Ud, Ud, Ud, Ud]) rfl rfl (does_nilCheck (ev rfl)) rfl ?_
  refine q_is (l' := [(Pt c_b c_o), (Iv x), (Iv y), Ud, Ud, Ud, (Pt b16 0), (Pt b46 0), (Pt b55 0), (Pt b65 0), Ud, Ud, Ud, Ud, Ud, (.tuple #[(.agg #[(Fl r27), (Fl r29), (Fl r31)]), (.agg #[(Fl r33), (Fl r35), (Fl r37)]), (.agg #[(Fl r39), (Fl r41), (Fl r43)])]), (Pt c_b c_o), (.tuple #[(.agg #[(Fl r27), (Fl r29), (Fl r31)]), (.agg #[(Fl r33), (Fl r35), (Fl r37)]), (.agg #[(Fl r39), (Fl r41), (Fl r43)])]), (.agg #[(Fl r27), (Fl r29), (Fl r31)]), (.agg #[(Fl r33), (Fl r35), (Fl r37)]), (.agg #[(Fl r39), (Fl r41), (Fl r43)]), (Pt c_b c_o), (Pt c_b c_o), (Pt c_b (c_o + 7)), Ud, Ud, Ud, Ud, Ud, Ud, Ud, Ud, Ud, Ud, Ud, Ud, Ud, Ud, Ud, Ud, Ud, Ud, Ud, Ud, Ud, Ud, Ud, Ud, Ud, Ud, Ud, Ud, Ud, Ud, Ud, Ud, Ud, Ud, Ud, Ud, Ud, Ud, Ud, Ud, Ud, Ud, Ud, Ud, Ud, Ud, Ud, Ud, Ud, Ud, Ud, Ud]) rfl rfl (does_fieldAddr (ev rfl) fa48_3) rfl ?_
  refine q_is (l' := [(Pt c_b c_o), (Iv x), (Iv y), Ud, Ud, Ud, (Pt b16 0), (Pt b46 0), (Pt b55 0), (Pt b65 0), Ud, Ud, Ud, Ud, Ud, (.tuple #[(.agg #[(Fl r27), (Fl r29), (Fl r31)]), (.agg #[(Fl r33), (Fl r35), (Fl r37)]), (.agg #[(Fl r39), (Fl r41), (Fl r43)])]), (Pt c_b c_o), (.tuple #[(.agg #[(Fl r27), (Fl r29), (Fl r31)]), (.agg #[(Fl r33), (Fl r35), (Fl r37)]), (.agg #[(Fl r39), (Fl r41), (Fl r43)])]), (.agg #[(Fl r27), (Fl r29), (Fl r31)]), (.agg #[(Fl r33), (Fl r35), (Fl r37)]), (.agg #[(Fl r39), (Fl r41), (Fl r43)]), (Pt c_b c_o), (Pt c_b c_o), (Pt c_b (c_o + 7)), (Iv A_c.width), Ud, Ud, Ud, Ud, Ud, Ud, Ud, Ud, Ud, Ud, Ud, Ud, Ud, Ud, Ud, Ud, Ud, Ud, Ud, Ud, Ud, Ud, Ud, Ud, Ud, Ud, Ud, Ud, Ud, Ud, Ud, Ud, Ud, Ud, Ud, Ud, Ud, Ud, Ud, Ud, Ud, Ud, Ud, Ud, Ud, Ud, Ud, Ud, Ud, Ud, Ud]) rfl rfl (does_load (u := (Iv A_c.width)) (ev rfl) Try.isAgg2 (Cells.at (hc_c.ext X87) 7 rfl)) rfl ?_
  refine q_is (l' := [(Pt c_b c_o), (Iv x), (Iv y), Ud, Ud, Ud, (Pt b16 0), (Pt b46 0), (Pt b55 0), (Pt b65 0), Ud, Ud, Ud, Ud, Ud, (.tuple #[(.agg #[(Fl r27), (Fl r29), (Fl r31)]), (.agg #[(Fl r33), (Fl r35), (Fl r37)]), (.agg #[(Fl r39), (Fl r41), (Fl r43)])]), (Pt c_b c_o), (.tuple #[(.agg #[(Fl r27), (Fl r29), (Fl r31)]), (.agg #[(Fl r33), (Fl r35), (Fl r37)]), (.agg #[(Fl r39), (Fl r41), (Fl r43)])]), (.agg #[(Fl r27), (Fl r29), (Fl r31)]), (.agg #[(Fl r33), (Fl r35), (Fl r37)]), (.agg #[(Fl r39), (Fl r41), (Fl r43)]), (Pt c_b c_o), (Pt c_b c_o), (Pt c_b (c_o + 7)), (Iv A_c.width), (Fl (FloatKind.f32.nearest A_c.width)), Ud, Ud, Ud, Ud, Ud, Ud, Ud, Ud, Ud, Ud, Ud, Ud, Ud, Ud, Ud, Ud, Ud, Ud, Ud, Ud, Ud, Ud, Ud, Ud, Ud, Ud, Ud, Ud, Ud, Ud, Ud, Ud, Ud, Ud, Ud, Ud, Ud, Ud, Ud, Ud, Ud, Ud, Ud, Ud, Ud, Ud, Ud, Ud, Ud, Ud]) rfl rfl (does_conv_if (k := .f32) Try.underlying2 Try.underlying24 (ev rfl)) rfl ?_
  refine q_is (l' := [(Pt c_b c_o), (Iv x), (Iv y), Ud, Ud, Ud, (Pt b16 0), (Pt b46 0), (Pt b55 0), (Pt b65 0), (Fl (FloatKind.f32.nearest A_c.width)), Ud, Ud, Ud, Ud, (.tuple #[(.agg #[(Fl r27), (Fl r29), (Fl r31)]), (.agg #[(Fl r33), (Fl r35), (Fl r37)]), (.agg #[(Fl r39), (Fl r41), (Fl r43)])]), (Pt c_b c_o), (.tuple #[(.agg #[(Fl r27), (Fl r29), (Fl r31)]), (.agg #[(Fl r33), (Fl r35), (Fl r37)]), (.agg #[(Fl r39), (Fl r41), (Fl r43)])]), (.agg #[(Fl r27), (Fl r29), (Fl r31)]), (.agg #[(Fl r33), (Fl r35), (Fl r37)]), (.agg #[(Fl r39), (Fl r41), (Fl r43)]), (Pt c_b c_o), (Pt c_b c_o), (Pt c_b (c_o + 7)), (Iv A_c.width), (Fl (FloatKind.f32.nearest A_c.width)), Ud, Ud, Ud, Ud, Ud, Ud, Ud, Ud, Ud, Ud, Ud, Ud, Ud, Ud, Ud, Ud, Ud, Ud, Ud, Ud, Ud, Ud, Ud, Ud, Ud, Ud, Ud, Ud, Ud, Ud, Ud, Ud, Ud, Ud, Ud, Ud, Ud, Ud, Ud, Ud, Ud, Ud, Ud, Ud, Ud, Ud, Ud, Ud, Ud, Ud]) rfl rfl (does_assign (u := (Fl (FloatKind.f32.nearest A_c.width))) (ev rfl)) rfl ?_
  refine wpList_nil (hK88 _ _ ?_)
  refine wp_seq_k fun K89 hK89 => ?_
  refine wp_region_lit ?_
  refine q_is (l' := [(Pt c_b c_o), (Iv x), (Iv y), Ud, Ud, Ud, (Pt b16 0), (Pt b46 0), (Pt b55 0), (Pt b65 0), (Fl (FloatKind.f32.nearest A_c.width)), Ud, Ud, Ud, Ud, (.tuple #[(.agg #[(Fl r27), (Fl r29), (Fl r31)]), (.agg #[(Fl r33), (Fl r35), (Fl r37)]), (.agg #[(Fl r39), (Fl r41), (Fl r43)])]), (Pt c_b c_o), (.tuple #[(.agg #[(Fl r27), (Fl r29), (Fl r31)]), (.agg #[(Fl r33), (Fl r35), (Fl r37)]), (.agg #[(Fl r39), (Fl r41), (Fl r43)])]), (.agg #[(Fl r27), (Fl r29), (Fl r31)]), (.agg #[(Fl r33), (Fl r35), (Fl r37)]), (.agg #[(Fl r39), (Fl r41), (Fl r43)]), (Pt c_b c_o), (Pt c_b c_o), (Pt c_b (c_o + 7)), (Iv A_c.width), (Fl (FloatKind.f32.nearest A_c.width)), (Pt c_b c_o), Ud, Ud, Ud, Ud, Ud, Ud, Ud, Ud, Ud, Ud, Ud, Ud, Ud, Ud, Ud, Ud, Ud, Ud, Ud, Ud, Ud, Ud, Ud, Ud, Ud, Ud, Ud, Ud, Ud, Ud, Ud, Ud, Ud, Ud, Ud, Ud, Ud, Ud, Ud, Ud, Ud, Ud, Ud, Ud, Ud, Ud, Ud, Ud, Ud]) rfl rfl (does_move (u := (Pt c_b c_o)) (ev rfl)) rfl ?_
  refine q_is (l' := [(Pt c_b c_o), (Iv x), (Iv y), Ud, Ud, Ud, (Pt b16 0), (Pt b46 0), (Pt b55 0), (Pt b65 0), (Fl (FloatKind.f32.nearest A_c.width)), Ud, Ud, Ud, Ud, (.tuple #[(.agg #[(Fl r27), (Fl r29), (Fl r31)]), (.agg #[(Fl r33), (Fl r35), (Fl r37)]), (.agg #[(Fl r39), (Fl r41), (Fl r43)])]), (Pt c_b c_o), (.tuple #[(.agg #[(Fl r27), (Fl r29), (Fl r31)]), (.agg #[(Fl r33), (Fl r35), (Fl r37)]), (.agg #[(Fl r39), (Fl r41), (Fl r43)])]), (.agg #[(Fl r27), (Fl r29), (Fl r31)]), (.agg #[(Fl r33), (Fl r35), (Fl r37)]), (.agg #[(Fl r39), (Fl r41), (Fl r43)]), (Pt c_b c_o), (Pt c_b c_o), (Pt c_b (c_o + 7)), (Iv A_c.width), (Fl (FloatKind.f32.nearest A_c.width)), (Pt c_b c_o), (Pt c_b c_o), Ud, Ud, Ud, Ud, Ud, Ud, Ud, Ud, Ud, Ud, Ud, Ud, Ud, Ud, Ud, Ud, Ud, Ud, Ud, Ud, Ud, Ud, Ud, Ud, Ud, Ud, Ud, Ud, Ud, Ud, Ud, Ud, Ud, Ud, Ud, Ud, Ud, Ud, Ud, Ud, Ud, Ud, Ud, Ud, Ud, Ud, Ud, Ud]) rfl rfl (does_nilCheck (ev rfl)) rfl ?_
  refine q_is (l' := [(Pt c_b c_o), (Iv x), (Iv y), Ud, Ud, Ud, (Pt b16 0), (Pt b46 0), (Pt b55 0), (Pt b65 0), (Fl (FloatKind.f32.nearest A_c.width)), Ud, Ud, Ud, Ud, (.tuple #[(.agg #[(Fl r27), (Fl r29), (Fl r31)]), (.agg #[(Fl r33), (Fl r35), (Fl r37)]), (.agg #[(Fl r39), (Fl r41), (Fl r43)])]), (Pt c_b c_o), (.tuple #[(.agg #[(Fl r27), (Fl r29), (Fl r31)]), (.agg #[(Fl r33), (Fl r35), (Fl r37)]), (.agg #[(Fl r39), (Fl r41), (Fl r43)])]), (.agg #[(Fl r27), (Fl r29), (Fl r31)]), (.agg #[(Fl r33), (Fl r35), (Fl r37)]), (.agg #[(Fl r39), (Fl r41), (Fl r43)]), (Pt c_b c_o), (Pt c_b c_o), (Pt c_b (c_o + 7)), (Iv A_c.width), (Fl (FloatKind.f32.nearest A_c.width)), (Pt c_b c_o), (Pt c_b c_o), (Pt c_b (c_o + 8)), Ud, Ud, Ud, Ud, Ud, Ud, Ud, Ud, Ud, Ud, Ud, Ud, Ud, Ud, Ud, Ud, Ud, Ud, Ud, Ud, Ud, Ud, Ud, Ud, Ud, Ud, Ud, Ud, Ud, Ud, Ud, Ud, Ud, Ud, Ud, Ud, Ud, Ud, Ud, Ud, Ud, Ud, Ud, Ud, Ud, Ud, Ud]) rfl rfl (does_fieldAddr (ev rfl) fa48_4) rfl ?_
  refine q_is (l' := [(Pt c_b c_o), (Iv x), (Iv y), Ud, Ud, Ud, (Pt b16 0), (Pt b46 0), (Pt b55 0), (Pt b65 0), (Fl (FloatKind.f32.nearest A_c.width)), Ud, Ud, Ud, Ud, (.tuple #[(.agg #[(Fl r27), (Fl r29), (Fl r31)]), (.agg #[(Fl r33), (Fl r35), (Fl r37)]), (.agg #[(Fl r39), (Fl r41), (Fl r43)])]), (Pt c_b c_o), (.tuple #[(.agg #[(Fl r27), (Fl r29), (Fl r31)]), (.agg #[(Fl r33), (Fl r35), (Fl r37)]), (.agg #[(Fl r39), (Fl r41), (Fl r43)])]), (.agg #[(Fl r27), (Fl r29), (Fl r31)]), (.agg #[(Fl r33), (Fl r35), (Fl r37)]), (.agg #[(Fl r39), (Fl r41), (Fl r43)]), (Pt c_b c_o), (Pt c_b c_o), (Pt c_b (c_o + 7)), (Iv A_c.width), (Fl (FloatKind.f32.nearest A_c.width)), (Pt c_b c_o), (Pt c_b c_o), (Pt c_b (c_o + 8)), (Iv A_c.height), Ud, Ud, Ud, Ud, Ud, Ud, Ud, Ud, Ud, Ud, Ud, Ud, Ud, Ud, Ud, Ud, Ud, Ud, Ud, Ud, Ud, Ud, Ud, Ud, Ud, Ud, Ud, Ud, Ud, Ud, Ud, Ud, Ud, Ud, Ud, Ud, Ud, Ud, Ud, Ud, Ud, Ud, Ud, Ud, Ud, Ud]) rfl rfl (does_load (u := (Iv A_c.height)) (ev rfl) Try.isAgg2 (Cells.at (hc_c.ext X87) 8 rfl)) rfl ?_
  refine q_is (l' := [(Pt c_b c_o), (Iv x), (Iv y), Ud, Ud, Ud, (Pt b16 0), (Pt b46 0), (Pt b55 0), (Pt b65 0), (Fl (FloatKind.f32.nearest A_c.width)), Ud, Ud, Ud, Ud, (.tuple #[(.agg #[(Fl r27), (Fl r29), (Fl r31)]), (.agg #[(Fl r33), (Fl r35), (Fl r37)]), (.agg #[(Fl r39), (Fl r41), (Fl r43)])]), (Pt c_b c_o), (.tuple #[(.agg #[(Fl r27), (Fl r29), (Fl r31)]), (.agg #[(Fl r33), (Fl r35), (Fl r37)]), (.agg #[(Fl r39), (Fl r41), (Fl r43)])]), (.agg #[(Fl r27), (Fl r29), (Fl r31)]), (.agg #[(Fl r33), (Fl r35), (Fl r37)]), (.agg #[(Fl r39), (Fl r41), (Fl r43)]), (Pt c_b c_o), (Pt c_b c_o), (Pt c_b (c_o + 7)), (Iv A_c.width), (Fl (FloatKind.f32.nearest A_c.width)), (Pt c_b c_o), (Pt c_b c_o), (Pt c_b (c_o + 8)), (Iv A_c.height), (Fl (FloatKind.f32.nearest A_c.height)), Ud, Ud, Ud, Ud, Ud, Ud, Ud, Ud, Ud, Ud, Ud, Ud, Ud, Ud, Ud, Ud, Ud, Ud, Ud, Ud, Ud, Ud, Ud, Ud, Ud, Ud, Ud, Ud, Ud, Ud, Ud, Ud, Ud, Ud, Ud, Ud, Ud, Ud, Ud, Ud, Ud, Ud, Ud, Ud, Ud]) rfl rfl (does_conv_if (k := .f32) Try.underlying2 Try.underlying24 (ev rfl)) rfl ?_
  refine q_is (l' := [(Pt c_b c_o), (Iv x), (Iv y), Ud, Ud, Ud, (Pt b16 0), (Pt b46 0), (Pt b55 0), (Pt b65 0), (Fl (FloatKind.f32.nearest A_c.width)), (Fl (FloatKind.f32.nearest A_c.height)), Ud, Ud, Ud, (.tuple #[(.agg #[(Fl r27), (Fl r29), (Fl r31)]), (.agg #[(Fl r33), (Fl r35), (Fl r37)]), (.agg #[(Fl r39), (Fl r41), (Fl r43)])]), (Pt c_b c_o), (.tuple #[(.agg #[(Fl r27), (Fl r29), (Fl r31)]), (.agg #[(Fl r33), (Fl r35), (Fl r37)]), (.agg #[(Fl r39), (Fl r41), (Fl r43)])]), (.agg #[(Fl r27), (Fl r29), (Fl r31)]), (.agg #[(Fl r33), (Fl r35), (Fl r37)]), (.agg #[(Fl r39), (Fl r41), (Fl r43)]), (Pt c_b c_o), (Pt c_b c_o), (Pt c_b (c_o + 7)), (Iv A_c.width), (Fl (FloatKind.f32.nearest A_c.width)), (Pt c_b c_o), (Pt c_b c_o), (Pt c_b (c_o + 8)), (Iv A_c.height), (Fl (FloatKind.f32.nearest A_c.height)), Ud, Ud, Ud, Ud, Ud, Ud, Ud, Ud, Ud, Ud, Ud, Ud, Ud, Ud, Ud, Ud, Ud, Ud, Ud, Ud, Ud, Ud, Ud, Ud, Ud, Ud, Ud, Ud, Ud, Ud, Ud, Ud, Ud, Ud, Ud, Ud, Ud, Ud, Ud, Ud, Ud, Ud, Ud, Ud, Ud]) rfl rfl (does_assign (u := (Fl (FloatKind.f32.nearest A_c.height))) (ev rfl)) rfl ?_
  refine wpList_nil (hK89 _ _ ?_)
  refine wp_seq_k fun K90 hK90 => ?_
  refine wp_region_lit ?_
  refine q_is (l' := [(Pt c_b c_o), (Iv x), (Iv y), Ud, Ud, Ud, (Pt b16 0), (Pt b46 0), (Pt b55 0), (Pt b65 0), (Fl (FloatKind.f32.nearest A_c.width)), (Fl (FloatKind.f32.nearest A_c.height)), Ud, Ud, Ud, (.tuple #[(.agg #[(Fl r27), (Fl r29), (Fl r31)]), (.agg #[(Fl r33), (Fl r35), (Fl r37)]), (.agg #[(Fl r39), (Fl r41), (Fl r43)])]), (Pt c_b c_o), (.tuple #[(.agg #[(Fl r27), (Fl r29), (Fl r31)]), (.agg #[(Fl r33), (Fl r35), (Fl r37)]), (.agg #[(Fl r39), (Fl r41), (Fl r43)])]), (.agg #[(Fl r27), (Fl r29), (Fl r31)]), (.agg #[(Fl r33), (Fl r35), (Fl r37)]), (.agg #[(Fl r39), (Fl r41), (Fl r43)]), (Pt c_b c_o), (Pt c_b c_o), (Pt c_b (c_o + 7)), (Iv A_c.width), (Fl (FloatKind.f32.nearest A_c.width)), (Pt c_b c_o), (Pt c_b c_o), (Pt c_b (c_o + 8)), (Iv A_c.height), (Fl (FloatKind.f32.nearest A_c.height)), (Iv x), Ud, Ud, Ud, Ud, Ud, Ud, Ud, Ud, Ud, Ud, Ud, Ud, Ud, Ud, Ud, Ud, Ud, Ud, Ud, Ud, Ud, Ud, Ud, Ud, Ud, Ud, Ud, Ud, Ud, Ud, Ud, Ud, Ud, Ud, Ud, Ud, Ud, Ud, Ud, Ud, Ud, Ud, Ud, Ud]) rfl rfl (does_move (u := (Iv x)) (ev rfl)) rfl ?_
  refine q_is (l' := [(Pt c_b c_o), (Iv x), (Iv y), Ud, Ud, Ud, (Pt b16 0), (Pt b46 0), (Pt b55 0), (Pt b65 0), (Fl (FloatKind.f32.nearest A_c.width)), (Fl (FloatKind.f32.nearest A_c.height)), Ud, Ud, Ud, (.tuple #[(.agg #[(Fl r27), (Fl r29), (Fl r31)]), (.agg #[(Fl r33), (Fl r35), (Fl r37)]), (.agg #[(Fl r39), (Fl r41), (Fl r43)])]), (Pt c_b c_o), (.tuple #[(.agg #[(Fl r27), (Fl r29), (Fl r31)]), (.agg #[(Fl r33), (Fl r35), (Fl r37)]), (.agg #[(Fl r39), (Fl r41), (Fl r43)])]), (.agg #[(Fl r27), (Fl r29), (Fl r31)]), (.agg #[(Fl r33), (Fl r35), (Fl r37)]), (.agg #[(Fl r39), (Fl r41), (Fl r43)]), (Pt c_b c_o), (Pt c_b c_o), (Pt c_b (c_o + 7)), (Iv A_c.width), (Fl (FloatKind.f32.nearest A_c.width)), (Pt c_b c_o), (Pt c_b c_o), (Pt c_b (c_o + 8)), (Iv A_c.height), (Fl (FloatKind.f32.nearest A_c.height)), (Iv x), (Fl (FloatKind.f32.nearest x)), Ud, Ud, Ud, Ud, Ud, Ud, Ud, Ud, Ud, Ud, Ud, Ud, Ud, Ud, Ud, Ud, Ud, Ud, Ud, Ud, Ud, Ud, Ud, Ud, Ud, Ud, Ud, Ud, Ud, Ud, Ud, Ud, Ud, Ud, Ud, Ud, Ud, Ud, Ud, Ud, Ud, Ud, Ud]) rfl rfl (does_conv_if (k := .f32) Try.underlying2 Try.underlying24 (ev rfl)) rfl ?_
  refine seqd rfl rfl (does_float (.inl rfl) (ev rfl) (ev rfl)) ?_; rintro _ w94 ⟨r91, rfl, h92, E93⟩
  have X95 := Ext.gr X87 E93
  show wpList _ _ _ _ (fr [(Pt c_b c_o), (Iv x), (Iv y), Ud, Ud, Ud, (Pt b16 0), (Pt b46 0), (Pt b55 0), (Pt b65 0), (Fl (FloatKind.f32.nearest A_c.width)), (Fl (FloatKind.f32.nearest A_c.height)), Ud, Ud, Ud, (.tuple #[(.agg #[(Fl r27), (Fl r29), (Fl r31)]), (.agg #[(Fl r33), (Fl r35), (Fl r37)]), (.agg #[(Fl r39), (Fl r41), (Fl r43)])]), (Pt c_b c_o), (.tuple #[(.agg #[(Fl r27), (Fl r29), (Fl r31)]), (.agg #[(Fl r33), (Fl r35), (Fl r37)]), (.agg #[(Fl r39), (Fl r41), (Fl r43)])]), (.agg #[(Fl r27), (Fl r29), (Fl r31)]), (.agg #[(Fl r33), (Fl r35), (Fl r37)]), (.agg #[(Fl r39), (Fl r41), (Fl r43)]), (Pt c_b c_o), (Pt c_b c_o), (Pt c_b (c_o + 7)), (Iv A_c.width), (Fl (FloatKind.f32.nearest A_c.width)), (Pt c_b c_o), (Pt c_b c_o), (Pt c_b (c_o + 8)), (Iv A_c.height), (Fl (FloatKind.f32.nearest A_c.height)), (Iv x), (Fl (FloatKind.f32.nearest x)), (Fl r91), Ud, Ud, Ud, Ud, Ud, Ud, Ud, Ud, Ud, Ud, Ud, Ud, Ud, Ud, Ud, Ud, Ud, Ud, Ud, Ud, Ud, Ud, Ud, Ud, Ud, Ud, Ud, Ud, Ud, Ud, Ud, Ud, Ud, Ud, Ud, Ud, Ud, Ud, Ud, Ud, Ud, Ud]) _
  refine q_is (l' := [(Pt c_b c_o), (Iv x), (Iv y), Ud, Ud, Ud, (Pt b16 0), (Pt b46 0), (Pt b55 0), (Pt b65 0), (Fl (FloatKind.f32.nearest A_c.width)), (Fl (FloatKind.f32.nearest A_c.height)), Ud, Ud, Ud, (.tuple #[(.agg #[(Fl r27), (Fl r29), (Fl r31)]), (.agg #[(Fl r33), (Fl r35), (Fl r37)]), (.agg #[(Fl r39), (Fl r41), (Fl r43)])]), (Pt c_b c_o), (.tuple #[(.agg #[(Fl r27), (Fl r29), (Fl r31)]), (.agg #[(Fl r33), (Fl r35), (Fl r37)]), (.agg #[(Fl r39), (Fl r41), (Fl r43)])]), (.agg #[(Fl r27), (Fl r29), (Fl r31)]), (.agg #[(Fl r33), (Fl r35), (Fl r37)]), (.agg #[(Fl r39), (Fl r41), (Fl r43)]), (Pt c_b c_o), (Pt c_b c_o), (Pt c_b (c_o + 7)), (Iv A_c.width), (Fl (FloatKind.f32.nearest A_c.width)), (Pt c_b c_o), (Pt c_b c_o), (Pt c_b (c_o + 8)), (Iv A_c.height), (Fl (FloatKind.f32.nearest A_c.height)), (Iv x), (Fl (FloatKind.f32.nearest x)), (Fl r91), (Fl (FloatKind.f32.nearest A_c.width)), Ud, Ud, Ud, Ud, Ud, Ud, Ud, Ud, Ud, Ud, Ud, Ud, Ud, Ud, Ud, Ud, Ud, Ud, Ud, Ud, Ud, Ud, Ud, Ud, Ud, Ud, Ud, Ud, Ud, Ud, Ud, Ud, Ud, Ud, Ud, Ud, Ud, Ud, Ud, Ud, Ud]) rfl rfl (does_move (u := (Fl (FloatKind.f32.nearest A_c.width))) (ev rfl)) rfl ?_
  refine seqd rfl rfl (does_float (.inr (.inr (.inr rfl))) (ev rfl) (ev rfl)) ?_; rintro _ w99 ⟨r96, rfl, h97, E98⟩
  have X100 := Ext.gr X95 E98
  show wpList _ _ _ _ (fr [(Pt c_b c_o), (Iv x), (Iv y), Ud, Ud, Ud, (Pt b16 0), (Pt b46 0), (Pt b55 0), (Pt b65 0), (Fl (FloatKind.f32.nearest A_c.width)), (Fl (FloatKind.f32.nearest A_c.height)), Ud, Ud, Ud, (.tuple #[(.agg #[(Fl r27), (Fl r29), (Fl r31)]), (.agg #[(Fl r33), (Fl r35), (Fl r37)]), (.agg #[(Fl r39), (Fl r41), (Fl r43)])]), (Pt c_b c_o), (.tuple #[(.agg #[(Fl r27), (Fl r29), (Fl r31)]), (.agg #[(Fl r33), (Fl r35), (Fl r37)]), (.agg #[(Fl r39), (Fl r41), (Fl r43)])]), (.agg #[(Fl r27), (Fl r29), (Fl r31)]), (.agg #[(Fl r33), (Fl r35), (Fl r37)]), (.agg #[(Fl r39), (Fl r41), (Fl r43)]), (Pt c_b c_o), (Pt c_b c_o), (Pt c_b (c_o + 7)), (Iv A_c.width), (Fl (FloatKind.f32.nearest A_c.width)), (Pt c_b c_o), (Pt c_b c_o), (Pt c_b (c_o + 8)), (Iv A_c.height), (Fl (FloatKind.f32.nearest A_c.height)), (Iv x), (Fl (FloatKind.f32.nearest x)), (Fl r91), (Fl (FloatKind.f32.nearest A_c.width)), (Fl r96), Ud, Ud, Ud, Ud, Ud, Ud, Ud, Ud, Ud, Ud, Ud, Ud, Ud, Ud, Ud, Ud, Ud, Ud, Ud, Ud, Ud, Ud, Ud, Ud, Ud, Ud, Ud, Ud, Ud, Ud, Ud, Ud, Ud, Ud, Ud, Ud, Ud, Ud, Ud, Ud]) _
  refine seqd rfl rfl (does_float (.inr (.inr (.inl rfl))) (ev rfl) (ev rfl)) ?_; rintro _ w104 ⟨r101, rfl, h102, E103⟩
  have X105 := Ext.gr X100 E103
  show wpList _ _ _ _ (fr [(Pt c_b c_o), (Iv x), (Iv y), Ud, Ud, Ud, (Pt b16 0), (Pt b46 0), (Pt b55 0), (Pt b65 0), (Fl (FloatKind.f32.nearest A_c.width)), (Fl (FloatKind.f32.nearest A_c.height)), Ud, Ud, Ud, (.tuple #[(.agg #[(Fl r27), (Fl r29), (Fl r31)]), (.agg #[(Fl r33), (Fl r35), (Fl r37)]), (.agg #[(Fl r39), (Fl r41), (Fl r43)])]), (Pt c_b c_o), (.tuple #[(.agg #[(Fl r27), (Fl r29), (Fl r31)]), (.agg #[(Fl r33), (Fl r35), (Fl r37)]), (.agg #[(Fl r39), (Fl r41), (Fl r43)])]), (.agg #[(Fl r27), (Fl r29), (Fl r31)]), (.agg #[(Fl r33), (Fl r35), (Fl r37)]), (.agg #[(Fl r39), (Fl r41), (Fl r43)]), (Pt c_b c_o), (Pt c_b c_o), (Pt c_b (c_o + 7)), (Iv A_c.width), (Fl (FloatKind.f32.nearest A_c.width)), (Pt c_b c_o), (Pt c_b c_o), (Pt c_b (c_o + 8)), (Iv A_c.height), (Fl (FloatKind.f32.nearest A_c.height)), (Iv x), (Fl (FloatKind.f32.nearest x)), (Fl r91), (Fl (FloatKind.f32.nearest A_c.width)), (Fl r96), (Fl r101), Ud, Ud, Ud, Ud, Ud, Ud, Ud, Ud, Ud, Ud, Ud, Ud, Ud, Ud, Ud, Ud, Ud, Ud, Ud, Ud, Ud, Ud, Ud, Ud, Ud, Ud, Ud, Ud, Ud, Ud, Ud, Ud, Ud, Ud, Ud, Ud, Ud, Ud, Ud]) _
  refine seqd rfl rfl (does_float (.inr (.inl rfl)) (ev rfl) (ev rfl)) ?_; rintro _ w109 ⟨r106, rfl, h107, E108⟩
  have X110 := Ext.gr X105 E108
  show wpList _ _ _ _ (fr [(Pt c_b c_o), (Iv x), (Iv y), Ud, Ud, Ud, (Pt b16 0), (Pt b46 0), (Pt b55 0), (Pt b65 0), (Fl (FloatKind.f32.nearest A_c.width)), (Fl (FloatKind.f32.nearest A_c.height)), Ud, Ud, Ud, (.tuple #[(.agg #[(Fl r27), (Fl r29), (Fl r31)]), (.agg #[(Fl r33), (Fl r35), (Fl r37)]), (.agg #[(Fl r39), (Fl r41), (Fl r43)])]), (Pt c_b c_o), (.tuple #[(.agg #[(Fl r27), (Fl r29), (Fl r31)]), (.agg #[(Fl r33), (Fl r35), (Fl r37)]), (.agg #[(Fl r39), (Fl r41), (Fl r43)])]), (.agg #[(Fl r27), (Fl r29), (Fl r31)]), (.agg #[(Fl r33), (Fl r35), (Fl r37)]), (.agg #[(Fl r39), (Fl r41), (Fl r43)]), (Pt c_b c_o), (Pt c_b c_o), (Pt c_b (c_o + 7)), (Iv A_c.width), (Fl (FloatKind.f32.nearest A_c.width)), (Pt c_b c_o), (Pt c_b c_o), (Pt c_b (c_o + 8)), (Iv A_c.height), (Fl (FloatKind.f32.nearest A_c.height)), (Iv x), (Fl (FloatKind.f32.nearest x)), (Fl r91), (Fl (FloatKind.f32.nearest A_c.width)), (Fl r96), (Fl r101), (Fl r106), Ud, Ud, Ud, Ud, Ud, Ud, Ud, Ud, Ud, Ud, Ud, Ud, Ud, Ud, Ud, Ud, Ud, Ud, Ud, Ud, Ud, Ud, Ud, Ud, Ud, Ud, Ud, Ud, Ud, Ud, Ud, Ud, Ud, Ud, Ud, Ud, Ud, Ud]) _
  refine q_is (l' := [(Pt c_b c_o), (Iv x), (Iv y), Ud, Ud, Ud, (Pt b16 0), (Pt b46 0), (Pt b55 0), (Pt b65 0), (Fl (FloatKind.f32.nearest A_c.width)), (Fl (FloatKind.f32.nearest A_c.height)), (Fl r106), Ud, Ud, (.tuple #[(.agg #[(Fl r27), (Fl r29), (Fl r31)]), (.agg #[(Fl r33), (Fl r35), (Fl r37)]), (.agg #[(Fl r39), (Fl r41), (Fl r43)])]), (Pt c_b c_o), (.tuple #[(.agg #[(Fl r27), (Fl r29), (Fl r31)]), (.agg #[(Fl r33), (Fl r35), (Fl r37)]), (.agg #[(Fl r39), (Fl r41), (Fl r43)])]), (.agg #[(Fl r27), (Fl r29), (Fl r31)]), (.agg #[(Fl r33), (Fl r35), (Fl r37)]), (.agg #[(Fl r39), (Fl r41), (Fl r43)]), (Pt c_b c_o), (Pt c_b c_o), (Pt c_b (c_o + 7)), (Iv A_c.width), (Fl (FloatKind.f32.nearest A_c.width)), (Pt c_b c_o), (Pt c_b c_o), (Pt c_b (c_o + 8)), (Iv A_c.height), (Fl (FloatKind.f32.nearest A_c.height)), (Iv x), (Fl (FloatKind.f32.nearest x)), (Fl r91), (Fl (FloatKind.f32.nearest A_c.width)), (Fl r96), (Fl r101), (Fl r106), Ud, Ud, Ud, Ud, Ud, Ud, Ud, Ud, Ud, Ud, Ud, Ud, Ud, Ud, Ud, Ud, Ud, Ud, Ud, Ud, Ud, Ud, Ud, Ud, Ud, Ud, Ud, Ud, Ud, Ud, Ud, Ud, Ud, Ud, Ud, Ud, Ud, Ud]) rfl rfl (does_assign (u := (Fl r106)) (ev rfl)) rfl ?_
  refine wpList_nil (hK90 _ _ ?_)
  refine wp_seq_k fun K111 hK111 => ?_
  refine wp_region_lit ?_
  refine q_is (l' := [(Pt c_b c_o), (Iv x), (Iv y), Ud, Ud, Ud, (Pt b16 0), (Pt b46 0), (Pt b55 0), (Pt b65 0), (Fl (FloatKind.f32.nearest A_c.width)), (Fl (FloatKind.f32.nearest A_c.height)), (Fl r106), Ud, Ud, (.tuple #[(.agg #[(Fl r27), (Fl r29), (Fl r31)]), (.agg #[(Fl r33), (Fl r35), (Fl r37)]), (.agg #[(Fl r39), (Fl r41), (Fl r43)])]), (Pt c_b c_o), (.tuple #[(.agg #[(Fl r27), (Fl r29), (Fl r31)]), (.agg #[(Fl r33), (Fl r35), (Fl r37)]), (.agg #[(Fl r39), (Fl r41), (Fl r43)])]), (.agg #[(Fl r27), (Fl r29), (Fl r31)]), (.agg #[(Fl r33), (Fl r35), (Fl r37)]), (.agg #[(Fl r39), (Fl r41), (Fl r43)]), (Pt c_b c_o), (Pt c_b c_o), (Pt c_b (c_o + 7)), (Iv A_c.width), (Fl (FloatKind.f32.nearest A_c.width)), (Pt c_b c_o), (Pt c_b c_o), (Pt c_b (c_o + 8)), (Iv A_c.height), (Fl (FloatKind.f32.nearest A_c.height)), (Iv x), (Fl (FloatKind.f32.nearest x)), (Fl r91), (Fl (FloatKind.f32.nearest A_c.width)), (Fl r96), (Fl r101), (Fl r106), (Fl r106), Ud, Ud, Ud, Ud, Ud, Ud, Ud, Ud, Ud, Ud, Ud, Ud, Ud, Ud, Ud, Ud, Ud, Ud, Ud, Ud, Ud, Ud, Ud, Ud, Ud, Ud, Ud, Ud, Ud, Ud, Ud, Ud, Ud, Ud, Ud, Ud, Ud]) rfl rfl (does_move (u := (Fl r106)) (ev rfl)) rfl ?_
  refine q_is (l' := [(Pt c_b c_o), (Iv x), (Iv y), Ud, Ud, Ud, (Pt b16 0), (Pt b46 0), (Pt b55 0), (Pt b65 0), (Fl (FloatKind.f32.nearest A_c.width)), (Fl (FloatKind.f32.nearest A_c.height)), (Fl r106), Ud, Ud, (.tuple #[(.agg #[(Fl r27), (Fl r29), (Fl r31)]), (.agg #[(Fl r33), (Fl r35), (Fl r37)]), (.agg #[(Fl r39), (Fl r41), (Fl r43)])]), (Pt c_b c_o), (.tuple #[(.agg #[(Fl r27), (Fl r29), (Fl r31)]), (.agg #[(Fl r33), (Fl r35), (Fl r37)]), (.agg #[(Fl r39), (Fl r41), (Fl r43)])]), (.agg #[(Fl r27), (Fl r29), (Fl r31)]), (.agg #[(Fl r33), (Fl r35), (Fl r37)]), (.agg #[(Fl r39), (Fl r41), (Fl r43)]), (Pt c_b c_o), (Pt c_b c_o), (Pt c_b (c_o + 7)), (Iv A_c.width), (Fl (FloatKind.f32.nearest A_c.width)), (Pt c_b c_o), (Pt c_b c_o), (Pt c_b (c_o + 8)), (Iv A_c.height), (Fl (FloatKind.f32.nearest A_c.height)), (Iv x), (Fl (FloatKind.f32.nearest x)), (Fl r91), (Fl (FloatKind.f32.nearest A_c.width)), (Fl r96), (Fl r101), (Fl r106), (Fl r106), (Pt c_b c_o), Ud, Ud, Ud, Ud, Ud, Ud, Ud, Ud, Ud, Ud, Ud, Ud, Ud, Ud, Ud, Ud, Ud, Ud, Ud, Ud, Ud, Ud, Ud, Ud, Ud, Ud, Ud, Ud, Ud, Ud, Ud, Ud, Ud, Ud, Ud, Ud]) rfl rfl (does_move (u := (Pt c_b c_o)) (ev rfl)) rfl ?_
  refine q_is (l' := [(Pt c_b c_o), (Iv x), (Iv y), Ud, Ud, Ud, (Pt b16 0), (Pt b46 0), (Pt b55 0), (Pt b65 0), (Fl (FloatKind.f32.nearest A_c.width)), (Fl (FloatKind.f32.nearest A_c.height)), (Fl r106), Ud, Ud, (.tuple #[(.agg #[(Fl r27), (Fl r29), (Fl r31)]), (.agg #[(Fl r33), (Fl r35), (Fl r37)]), (.agg #[(Fl r39), (Fl r41), (Fl r43)])]), (Pt c_b c_o), (.tuple #[(.agg #[(Fl r27), (Fl r29), (Fl r31)]), (.agg #[(Fl r33), (Fl r35), (Fl r37)]), (.agg #[(Fl r39), (Fl r41), (Fl r43)])]), (.agg #[(Fl r27), (Fl r29), (Fl r31)]), (.agg #[(Fl r33), (Fl r35), (Fl r37)]), (.agg #[(Fl r39), (Fl r41), (Fl r43)]), (Pt c_b c_o), (Pt c_b c_o), (Pt c_b (c_o + 7)), (Iv A_c.width), (Fl (FloatKind.f32.nearest A_c.width)), (Pt c_b c_o), (Pt c_b c_o), (Pt c_b (c_o + 8)), (Iv A_c.height), (Fl (FloatKind.f32.nearest A_c.height)), (Iv x), (Fl (FloatKind.f32.nearest x)), (Fl r91), (Fl (FloatKind.f32.nearest A_c.width)), (Fl r96), (Fl r101), (Fl r106), (Fl r106), (Pt c_b c_o), (Pt c_b c_o), Ud, Ud, Ud, Ud, Ud, Ud, Ud, Ud, Ud, Ud, Ud, Ud, Ud, Ud, Ud, Ud, Ud, Ud, Ud, Ud, Ud, Ud, Ud, Ud, Ud, Ud, Ud, Ud, Ud, Ud, Ud, Ud, Ud, Ud, Ud]) rfl rfl (does_nilCheck (ev rfl)) rfl ?_
  refine q_is (l' := [(Pt c_b c_o), (Iv x), (Iv y), Ud, Ud, Ud, (Pt b16 0), (Pt b46 0), (Pt b55 0), (Pt b65 0), (Fl (FloatKind.f32.nearest A_c.width)), (Fl (FloatKind.f32.nearest A_c.height)), (Fl r106), Ud, Ud, (.tuple #[(.agg #[(Fl r27), (Fl r29), (Fl r31)]), (.agg #[(Fl r33), (Fl r35), (Fl r37)]), (.agg #[(Fl r39), (Fl r41), (Fl r43)])]), (Pt c_b c_o), (.tuple #[(.agg #[(Fl r27), (Fl r29), (Fl r31)]), (.agg #[(Fl r33), (Fl r35), (Fl r37)]), (.agg #[(Fl r39), (Fl r41), (Fl r43)])]), (.agg #[(Fl r27), (Fl r29), (Fl r31)]), (.agg #[(Fl r33), (Fl r35), (Fl r37)]), (.agg #[(Fl r39), (Fl r41), (Fl r43)]), (Pt c_b c_o), (Pt c_b c_o), (Pt c_b (c_o + 7)), (Iv A_c.width), (Fl (FloatKind.f32.nearest A_c.width)), (Pt c_b c_o), (Pt c_b c_o), (Pt c_b (c_o + 8)), (Iv A_c.height), (Fl (FloatKind.f32.nearest A_c.height)), (Iv x), (Fl (FloatKind.f32.nearest x)), (Fl r91), (Fl (FloatKind.f32.nearest A_c.width)), (Fl r96), (Fl r101), (Fl r106), (Fl r106), (Pt c_b c_o), (Pt c_b c_o), (Pt c_b (c_o + 6)), Ud, Ud, Ud, Ud, Ud, Ud, Ud, Ud, Ud, Ud, Ud, Ud, Ud, Ud, Ud, Ud, Ud, Ud, Ud, Ud, Ud, Ud, Ud, Ud, Ud, Ud, Ud, Ud, Ud, Ud, Ud, Ud, Ud, Ud]) rfl rfl (does_fieldAddr (ev rfl) fa48_2) rfl ?_
  refine q_is (l' := [(Pt c_b c_o), (Iv x), (Iv y), Ud, Ud, Ud, (Pt b16 0), (Pt b46 0), (Pt b55 0), (Pt b65 0), (Fl (FloatKind.f32.nearest A_c.width)), (Fl (FloatKind.f32.nearest A_c.height)), (Fl r106), Ud, Ud, (.tuple #[(.agg #[(Fl r27), (Fl r29), (Fl r31)]), (.agg #[(Fl r33), (Fl r35), (Fl r37)]), (.agg #[(Fl r39), (Fl r41), (Fl r43)])]), (Pt c_b c_o), (.tuple #[(.agg #[(Fl r27), (Fl r29), (Fl r31)]), (.agg #[(Fl r33), (Fl r35), (Fl r37)]), (.agg #[(Fl r39), (Fl r41), (Fl r43)])]), (.agg #[(Fl r27), (Fl r29), (Fl r31)]), (.agg #[(Fl r33), (Fl r35), (Fl r37)]), (.agg #[(Fl r39), (Fl r41), (Fl r43)]), (Pt c_b c_o), (Pt c_b c_o), (Pt c_b (c_o + 7)), (Iv A_c.width), (Fl (FloatKind.f32.nearest A_c.width)), (Pt c_b c_o), (Pt c_b c_o), (Pt c_b (c_o + 8)), (Iv A_c.height), (Fl (FloatKind.f32.nearest A_c.height)), (Iv x), (Fl (FloatKind.f32.nearest x)), (Fl r91), (Fl (FloatKind.f32.nearest A_c.width)), (Fl r96), (Fl r101), (Fl r106), (Fl r106), (Pt c_b c_o), (Pt c_b c_o), (Pt c_b (c_o + 6)), (Fl r13), Ud, Ud, Ud, Ud, Ud, Ud, Ud, Ud, Ud, Ud, Ud, Ud, Ud, Ud, Ud, Ud, Ud, Ud, Ud, Ud, Ud, Ud, Ud, Ud, Ud, Ud, Ud, Ud, Ud, Ud, Ud, Ud, Ud]) rfl rfl (does_load (u := (Fl r13)) (ev rfl) Try.isAgg24 (Cells.at (hc_c.ext X110) 6 rfl)) rfl ?_
  refine seqd rfl rfl (does_float (.inr (.inr (.inl rfl))) (ev rfl) (ev rfl)) ?_; rintro _ w115 ⟨r112, rfl, h113, E114⟩
  have X116 := Ext.gr X110 E114
  show wpList _ _ _ _ (fr [(Pt c_b c_o), (Iv x), (Iv y), Ud, Ud, Ud, (Pt b16 0), (Pt b46 0), (Pt b55 0), (Pt b65 0), (Fl (FloatKind.f32.nearest A_c.width)), (Fl (FloatKind.f32.nearest A_c.height)), (Fl r106), Ud, Ud, (.tuple #[(.agg #[(Fl r27), (Fl r29), (Fl r31)]), (.agg #[(Fl r33), (Fl r35), (Fl r37)]), (.agg #[(Fl r39), (Fl r41), (Fl r43)])]), (Pt c_b c_o), (.tuple #[(.agg #[(Fl r27), (Fl r29), (Fl r31)]), (.agg #[(Fl r33), (Fl r35), (Fl r37)]), (.agg #[(Fl r39), (Fl r41), (Fl r43)])]), (.agg #[(Fl r27), (Fl r29), (Fl r31)]), (.agg #[(Fl r33), (Fl r35), (Fl r37)]), (.agg #[(Fl r39), (Fl r41), (Fl r43)]), (Pt c_b c_o), (Pt c_b c_o), (Pt c_b (c_o + 7)), (Iv A_c.width), (Fl (FloatKind.f32.nearest A_c.width)), (Pt c_b c_o), (Pt c_b c_o), (Pt c_b (c_o + 8)), (Iv A_c.height), (Fl (FloatKind.f32.nearest A_c.height)), (Iv x), (Fl (FloatKind.f32.nearest x)), (Fl r91), (Fl (FloatKind.f32.nearest A_c.width)), (Fl r96), (Fl r101), (Fl r106), (Fl r106), (Pt c_b c_o), (Pt c_b c_o), (Pt c_b (c_o + 6)), (Fl r13), (Fl r112), Ud, Ud, Ud, Ud, Ud, Ud, Ud, Ud, Ud, Ud, Ud, Ud, Ud, Ud, Ud, Ud, Ud, Ud, Ud, Ud, Ud, Ud, Ud, Ud, Ud, Ud, Ud, Ud, Ud, Ud, Ud, Ud]) _
  refine q_is (l' := [(Pt c_b c_o), (Iv x), (Iv y), Ud, Ud, Ud, (Pt b16 0), (Pt b46 0), (Pt b55 0), (Pt b65 0), (Fl (FloatKind.f32.nearest A_c.width)), (Fl (FloatKind.f32.nearest A_c.height)), (Fl r106), Ud, Ud, (.tuple #[(.agg #[(Fl r27), (Fl r29), (Fl r31)]), (.agg #[(Fl r33), (Fl r35), (Fl r37)]), (.agg #[(Fl r39), (Fl r41), (Fl r43)])]), (Pt c_b c_o), (.tuple #[(.agg #[(Fl r27), (Fl r29), (Fl r31)]), (.agg #[(Fl r33), (Fl r35), (Fl r37)]), (.agg #[(Fl r39), (Fl r41), (Fl r43)])]), (.agg #[(Fl r27), (Fl r29), (Fl r31)]), (.agg #[(Fl r33), (Fl r35), (Fl r37)]), (.agg #[(Fl r39), (Fl r41), (Fl r43)]), (Pt c_b c_o), (Pt c_b c_o), (Pt c_b (c_o + 7)), (Iv A_c.width), (Fl (FloatKind.f32.nearest A_c.width)), (Pt c_b c_o), (Pt c_b c_o), (Pt c_b (c_o + 8)), (Iv A_c.height), (Fl (FloatKind.f32.nearest A_c.height)), (Iv x), (Fl (FloatKind.f32.nearest x)), (Fl r91), (Fl (FloatKind.f32.nearest A_c.width)), (Fl r96), (Fl r101), (Fl r106), (Fl r106), (Pt c_b c_o), (Pt c_b c_o), (Pt c_b (c_o + 6)), (Fl r13), (Fl r112), (Fl (FloatKind.f32.nearest A_c.width)), Ud, Ud, Ud, Ud, Ud, Ud, Ud, Ud, Ud, Ud, Ud, Ud, Ud, Ud, Ud, Ud, Ud, Ud, Ud, Ud, Ud, Ud, Ud, Ud, Ud, Ud, Ud, Ud, Ud, Ud, Ud]) rfl rfl (does_move (u := (Fl (FloatKind.f32.nearest A_c.width))) (ev rfl)) rfl ?_
  refine q_is (l' := [(Pt c_b c_o), (Iv x), (Iv y), Ud, Ud, Ud, (Pt b16 0), (Pt b46 0), (Pt b55 0), (Pt b65 0), (Fl (FloatKind.f32.nearest A_c.width)), (Fl (FloatKind.f32.nearest A_c.height)), (Fl r106), Ud, Ud, (.tuple #[(.agg #[(Fl r27), (Fl r29), (Fl r31)]), (.agg #[(Fl r33), (Fl r35), (Fl r37)]), (.agg #[(Fl r39), (Fl r41), (Fl r43)])]), (Pt c_b c_o), (.tuple #[(.agg #[(Fl r27), (Fl r29), (Fl r31)]), (.agg #[(Fl r33), (Fl r35), (Fl r37)]), (.agg #[(Fl r39), (Fl r41), (Fl r43)])]), (.agg #[(Fl r27), (Fl r29), (Fl r31)]), (.agg #[(Fl r33), (Fl r35), (Fl r37)]), (.agg #[(Fl r39), (Fl r41), (Fl r43)]), (Pt c_b c_o), (Pt c_b c_o), (Pt c_b (c_o + 7)), (Iv A_c.width), (Fl (FloatKind.f32.nearest A_c.width)), (Pt c_b c_o), (Pt c_b c_o), (Pt c_b (c_o + 8)), (Iv A_c.height), (Fl (FloatKind.f32.nearest A_c.height)), (Iv x), (Fl (FloatKind.f32.nearest x)), (Fl r91), (Fl (FloatKind.f32.nearest A_c.width)), (Fl r96), (Fl r101), (Fl r106), (Fl r106), (Pt c_b c_o), (Pt c_b c_o), (Pt c_b (c_o + 6)), (Fl r13), (Fl r112), (Fl (FloatKind.f32.nearest A_c.width)), (Fl (FloatKind.f32.nearest A_c.height)), Ud, Ud, Ud, Ud, Ud, Ud, Ud, Ud, Ud, Ud, Ud, Ud, Ud, Ud, Ud, Ud, Ud, Ud, Ud, Ud, Ud, Ud, Ud, Ud, Ud, Ud, Ud, Ud, Ud, Ud]) rfl rfl (does_move (u := (Fl (FloatKind.f32.nearest A_c.height))) (ev rfl)) rfl ?_
  refine seqd rfl rfl (does_float (.inr (.inr (.inr rfl))) (ev rfl) (ev rfl)) ?_; rintro _ w120 ⟨r117, rfl, h118, E119⟩
  have X121 := Ext.gr X116 E119
  show wpList _ _ _ _ (fr [(Pt c_b c_o), (Iv x), (Iv y), Ud, Ud, Ud, (Pt b16 0), (Pt b46 0), (Pt b55 0), (Pt b65 0), (Fl (FloatKind.f32.nearest A_c.width)), (Fl (FloatKind.f32.nearest A_c.height)), (Fl r106), Ud, Ud, (.tuple #[(.agg #[(Fl r27), (Fl r29), (Fl r31)]), (.agg #[(Fl r33), (Fl r35), (Fl r37)]), (.agg #[(Fl r39), (Fl r41), (Fl r43)])]), (Pt c_b c_o), (.tuple #[(.agg #[(Fl r27), (Fl r29), (Fl r31)]), (.agg #[(Fl r33), (Fl r35), (Fl r37)]), (.agg #[(Fl r39), (Fl r41), (Fl r43)])]), (.agg #[(Fl r27), (Fl r29), (Fl r31)]), (.agg #[(Fl r33), (Fl r35), (Fl r37)]), (.agg #[(Fl r39), (Fl r41), (Fl r43)]), (Pt c_b c_o), (Pt c_b c_o), (Pt c_b (c_o + 7)), (Iv A_c.width), (Fl (FloatKind.f32.nearest A_c.width)), (Pt c_b c_o), (Pt c_b c_o), (Pt c_b (c_o + 8)), (Iv A_c.height), (Fl (FloatKind.f32.nearest A_c.height)), (Iv x), (Fl (FloatKind.f32.nearest x)), (Fl r91), (Fl (FloatKind.f32.nearest A_c.width)), (Fl r96), (Fl r101), (Fl r106), (Fl r106), (Pt c_b c_o), (Pt c_b c_o), (Pt c_b (c_o + 6)), (Fl r13), (Fl r112), (Fl (FloatKind.f32.nearest A_c.width)), (Fl (FloatKind.f32.nearest A_c.height)), (Fl r117), Ud, Ud, Ud, Ud, Ud, Ud, Ud, Ud, Ud, Ud, Ud, Ud, Ud, Ud, Ud, Ud, Ud, Ud, Ud, Ud, Ud, Ud, Ud, Ud, Ud, Ud, Ud, Ud, Ud]) _
  refine seqd rfl rfl (does_float (.inr (.inr (.inl rfl))) (ev rfl) (ev rfl)) ?_; rintro _ w125 ⟨r122, rfl, h123, E124⟩
  have X126 := Ext.gr X121 E124
  show wpList _ _ _ _ (fr [(Pt c_b c_o), (Iv x), (Iv y), Ud, Ud, Ud, (Pt b16 0), (Pt b46 0), (Pt b55 0), (Pt b65 0), (Fl (FloatKind.f32.nearest A_c.width)), (Fl (FloatKind.f32.nearest A_c.height)), (Fl r106), Ud, Ud, (.tuple #[(.agg #[(Fl r27), (Fl r29), (Fl r31)]), (.agg #[(Fl r33), (Fl r35), (Fl r37)]), (.agg #[(Fl r39), (Fl r41), (Fl r43)])]), (Pt c_b c_o), (.tuple #[(.agg #[(Fl r27), (Fl r29), (Fl r31)]), (.agg #[(Fl r33), (Fl r35), (Fl r37)]), (.agg #[(Fl r39), (Fl r41), (Fl r43)])]), (.agg #[(Fl r27), (Fl r29), (Fl r31)]), (.agg #[(Fl r33), (Fl r35), (Fl r37)]), (.agg #[(Fl r39), (Fl r41), (Fl r43)]), (Pt c_b c_o), (Pt c_b c_o), (Pt c_b (c_o + 7)), (Iv A_c.width), (Fl (FloatKind.f32.nearest A_c.width)), (Pt c_b c_o), (Pt c_b c_o), (Pt c_b (c_o + 8)), (Iv A_c.height), (Fl (FloatKind.f32.nearest A_c.height)), (Iv x), (Fl (FloatKind.f32.nearest x)), (Fl r91), (Fl (FloatKind.f32.nearest A_c.width)), (Fl r96), (Fl r101), (Fl r106), (Fl r106), (Pt c_b c_o), (Pt c_b c_o), (Pt c_b (c_o + 6)), (Fl r13), (Fl r112), (Fl (FloatKind.f32.nearest A_c.width)), (Fl (FloatKind.f32.nearest A_c.height)), (Fl r117), (Fl r122), Ud, Ud, Ud, Ud, Ud, Ud, Ud, Ud, Ud, Ud, Ud, Ud, Ud, Ud, Ud, Ud, Ud, Ud, Ud, Ud, Ud, Ud, Ud, Ud, Ud, Ud, Ud, Ud]) _
  refine q_is (l' := [(Pt c_b c_o), (Iv x), (Iv y), Ud, Ud, Ud, (Pt b16 0), (Pt b46 0), (Pt b55 0), (Pt b65 0), (Fl (FloatKind.f32.nearest A_c.width)), (Fl (FloatKind.f32.nearest A_c.height)), (Fl r122), Ud, Ud, (.tuple #[(.agg #[(Fl r27), (Fl r29), (Fl r31)]), (.agg #[(Fl r33), (Fl r35), (Fl r37)]), (.agg #[(Fl r39), (Fl r41), (Fl r43)])]), (Pt c_b c_o), (.tuple #[(.agg #[(Fl r27), (Fl r29), (Fl r31)]), (.agg #[(Fl r33), (Fl r35), (Fl r37)]), (.agg #[(Fl r39), (Fl r41), (Fl r43)])]), (.agg #[(Fl r27), (Fl r29), (Fl r31)]), (.agg #[(Fl r33), (Fl r35), (Fl r37)]), (.agg #[(Fl r39), (Fl r41), (Fl r43)]), (Pt c_b c_o), (Pt c_b c_o), (Pt c_b (c_o + 7)), (Iv A_c.width), (Fl (FloatKind.f32.nearest A_c.width)), (Pt c_b c_o), (Pt c_b c_o), (Pt c_b (c_o + 8)), (Iv A_c.height), (Fl (FloatKind.f32.nearest A_c.height)), (Iv x), (Fl (FloatKind.f32.nearest x)), (Fl r91), (Fl (FloatKind.f32.nearest A_c.width)), (Fl r96), (Fl r101), (Fl r106), (Fl r106), (Pt c_b c_o), (Pt c_b c_o), (Pt c_b (c_o + 6)), (Fl r13), (Fl r112), (Fl (FloatKind.f32.nearest A_c.width)), (Fl (FloatKind.f32.nearest A_c.height)), (Fl r117), (Fl r122), Ud, Ud, Ud, Ud, Ud, Ud, Ud, Ud, Ud, Ud, Ud, Ud, Ud, Ud, Ud, Ud, Ud, Ud, Ud, Ud, Ud, Ud, Ud, Ud, Ud, Ud, Ud, Ud]) rfl rfl (does_assign (u := (Fl r122)) (ev rfl)) rfl ?_
  refine wpList_nil (hK111 _ _ ?_)
  refine wp_seq_k fun K127 hK127 => ?_
  refine wp_region_lit ?_
  refine q_is (l' := [(Pt c_b c_o), (Iv x), (Iv y), Ud, Ud, Ud, (Pt b16 0), (Pt b46 0), (Pt b55 0), (Pt b65 0), (Fl (FloatKind.f32.nearest A_c.width)), (Fl (FloatKind.f32.nearest A_c.height)), (Fl r122), Ud, Ud, (.tuple #[(.agg #[(Fl r27), (Fl r29), (Fl r31)]), (.agg #[(Fl r33), (Fl r35), (Fl r37)]), (.agg #[(Fl r39), (Fl r41), (Fl r43)])]), (Pt c_b c_o), (.tuple #[(.agg #[(Fl r27), (Fl r29), (Fl r31)]), (.agg #[(Fl r33), (Fl r35), (Fl r37)]), (.agg #[(Fl r39), (Fl r41), (Fl r43)])]), (.agg #[(Fl r27), (Fl r29), (Fl r31)]), (.agg #[(Fl r33), (Fl r35), (Fl r37)]), (.agg #[(Fl r39), (Fl r41), (Fl r43)]), (Pt c_b c_o), (Pt c_b c_o), (Pt c_b (c_o + 7)), (Iv A_c.width), (Fl (FloatKind.f32.nearest A_c.width)), (Pt c_b c_o), (Pt c_b c_o), (Pt c_b (c_o + 8)), (Iv A_c.height), (Fl (FloatKind.f32.nearest A_c.height)), (Iv x), (Fl (FloatKind.f32.nearest x)), (Fl r91), (Fl (FloatKind.f32.nearest A_c.width)), (Fl r96), (Fl r101), (Fl r106), (Fl r106), (Pt c_b c_o), (Pt c_b c_o), (Pt c_b (c_o + 6)), (Fl r13), (Fl r112), (Fl (FloatKind.f32.nearest A_c.width)), (Fl (FloatKind.f32.nearest A_c.height)), (Fl r117), (Fl r122), (Iv y), Ud, Ud, Ud, Ud, Ud, Ud, Ud, Ud, Ud, Ud, Ud, Ud, Ud, Ud, Ud, Ud, Ud, Ud, Ud, Ud, Ud, Ud, Ud, Ud, Ud, Ud, Ud]) rfl rfl (does_move (u := (Iv y)) (ev rfl)) rfl ?_
  refine q_is (l' := [(Pt c_b c_o), (Iv x), (Iv y), Ud, Ud, Ud, (Pt b16 0), (Pt b46 0), (Pt b55 0), (Pt b65 0), (Fl (FloatKind.f32.nearest A_c.width)), (Fl (FloatKind.f32.nearest A_c.height)), (Fl r122), Ud, Ud, (.tuple #[(.agg #[(Fl r27), (Fl r29), (Fl r31)]), (.agg #[(Fl r33), (Fl r35), (Fl r37)]), (.agg #[(Fl r39), (Fl r41), (Fl r43)])]), (Pt c_b c_o), (.tuple #[(.agg #[(Fl r27), (Fl r29), (Fl r31)]), (.agg #[(Fl r33), (Fl r35), (Fl r37)]), (.agg #[(Fl r39), (Fl r41), (Fl r43)])]), (.agg #[(Fl r27), (Fl r29), (Fl r31)]), (.agg #[(Fl r33), (Fl r35), (Fl r37)]), (.agg #[(Fl r39), (Fl r41), (Fl r43)]), (Pt c_b c_o), (Pt c_b c_o), (Pt c_b (c_o + 7)), (Iv A_c.width), (Fl (FloatKind.f32.nearest A_c.width)), (Pt c_b c_o), (Pt c_b c_o), (Pt c_b (c_o + 8)), (Iv A_c.height), (Fl (FloatKind.f32.nearest A_c.height)), (Iv x), (Fl (FloatKind.f32.nearest x)), (Fl r91), (Fl (FloatKind.f32.nearest A_c.width)), (Fl r96), (Fl r101), (Fl r106), (Fl r106), (Pt c_b c_o), (Pt c_b c_o), (Pt c_b (c_o + 6)), (Fl r13), (Fl r112), (Fl (FloatKind.f32.nearest A_c.width)), (Fl (FloatKind.f32.nearest A_c.height)), (Fl r117), (Fl r122), (Iv y), (Fl (FloatKind.f32.nearest y)), Ud, Ud, Ud, Ud, Ud, Ud, Ud, Ud, Ud, Ud, Ud, Ud, Ud, Ud, Ud, Ud, Ud, Ud, Ud, Ud, Ud, Ud, Ud, Ud, Ud, Ud]) rfl rfl (does_conv_if (k := .f32) Try.underlying2 Try.underlying24 (ev rfl)) rfl ?_
  refine seqd rfl rfl (does_float (.inl rfl) (ev rfl) (ev rfl)) ?_; rintro _ w131 ⟨r128, rfl, h129, E130⟩
  have X132 := Ext.gr X126 E130
  show wpList _ _ _ _ (fr [(Pt c_b c_o), (Iv x), (Iv y), Ud, Ud, Ud, (Pt b16 0), (Pt b46 0), (Pt b55 0), (Pt b65 0), (Fl (FloatKind.f32.nearest A_c.width)), (Fl (FloatKind.f32.nearest A_c.height)), (Fl r122), Ud, Ud, (.tuple #[(.agg #[(Fl r27), (Fl r29), (Fl r31)]), (.agg #[(Fl r33), (Fl r35), (Fl r37)]), (.agg #[(Fl r39), (Fl r41), (Fl r43)])]), (Pt c_b c_o), (.tuple #[(.agg #[(Fl r27), (Fl r29), (Fl r31)]), (.agg #[(Fl r33), (Fl r35), (Fl r37)]), (.agg #[(Fl r39), (Fl r41), (Fl r43)])]), (.agg #[(Fl r27), (Fl r29), (Fl r31)]), (.agg #[(Fl r33), (Fl r35), (Fl r37)]), (.agg #[(Fl r39), (Fl r41), (Fl r43)]), (Pt c_b c_o), (Pt c_b c_o), (Pt c_b (c_o + 7)), (Iv A_c.width), (Fl (FloatKind.f32.nearest A_c.width)), (Pt c_b c_o), (Pt c_b c_o), (Pt c_b (c_o + 8)), (Iv A_c.height), (Fl (FloatKind.f32.nearest A_c.height)), (Iv x), (Fl (FloatKind.f32.nearest x)), (Fl r91), (Fl (FloatKind.f32.nearest A_c.width)), (Fl r96), (Fl r101), (Fl r106), (Fl r106), (Pt c_b c_o), (Pt c_b c_o), (Pt c_b (c_o + 6)), (Fl r13), (Fl r112), (Fl (FloatKind.f32.nearest A_c.width)), (Fl (FloatKind.f32.nearest A_c.height)), (Fl r117), (Fl r122), (Iv y), (Fl (FloatKind.f32.nearest y)), (Fl r128), Ud, Ud, Ud, Ud, Ud, Ud, Ud, Ud, Ud, Ud, Ud, Ud, Ud, Ud, Ud, Ud, Ud, Ud, Ud, Ud, Ud, Ud, Ud, Ud, Ud]) _
  refine q_is (l' := [(Pt c_b c_o), (Iv x), (Iv y), Ud, Ud, Ud, (Pt b16 0), (Pt b46 0), (Pt b55 0), (Pt b65 0), (Fl (FloatKind.f32.nearest A_c.width)), (Fl (FloatKind.f32.nearest A_c.height)), (Fl r122), Ud, Ud, (.tuple #[(.agg #[(Fl r27), (Fl r29), (Fl r31)]), (.agg #[(Fl r33), (Fl r35), (Fl r37)]), (.agg #[(Fl r39), (Fl r41), (Fl r43)])]), (Pt c_b c_o), (.tuple #[(.agg #[(Fl r27), (Fl r29), (Fl r31)]), (.agg #[(Fl r33), (Fl r35), (Fl r37)]), (.agg #[(Fl r39), (Fl r41), (Fl r43)])]), (.agg #[(Fl r27), (Fl r29), (Fl r31)]), (.agg #[(Fl r33), (Fl r35), (Fl r37)]), (.agg #[(Fl r39), (Fl r41), (Fl r43)]), (Pt c_b c_o), (Pt c_b c_o), (Pt c_b (c_o + 7)), (Iv A_c.width), (Fl (FloatKind.f32.nearest A_c.width)), (Pt c_b c_o), (Pt c_b c_o), (Pt c_b (c_o + 8)), (Iv A_c.height), (Fl (FloatKind.f32.nearest A_c.height)), (Iv x), (Fl (FloatKind.f32.nearest x)), (Fl r91), (Fl (FloatKind.f32.nearest A_c.width)), (Fl r96), (Fl r101), (Fl r106), (Fl r106), (Pt c_b c_o), (Pt c_b c_o), (Pt c_b (c_o + 6)), (Fl r13), (Fl r112), (Fl (FloatKind.f32.nearest A_c.width)), (Fl (FloatKind.f32.nearest A_c.height)), (Fl r117), (Fl r122), (Iv y), (Fl (FloatKind.f32.nearest y)), (Fl r128), (Fl (FloatKind.f32.nearest A_c.height)), Ud, Ud, Ud, Ud, Ud, Ud, Ud, Ud, Ud, Ud, Ud, Ud, Ud, Ud, Ud, Ud, Ud, Ud, Ud, Ud, Ud, Ud, Ud, Ud]) rfl rfl (does_move (u := (Fl (FloatKind.f32.nearest A_c.height))) (ev rfl)) rfl ?_
  refine seqd rfl rfl (does_float (.inr (.inr (.inr rfl))) (ev rfl) (ev rfl)) ?_; rintro _ w136 ⟨r133, rfl, h134, E135⟩
  have X137 := Ext.gr X132 E135
  show wpList _ _ _ _ (fr [(Pt c_b c_o), (Iv x), (Iv y), Ud, Ud, Ud, (Pt b16 0), (Pt b46 0), (Pt b55 0), (Pt b65 0), (Fl (FloatKind.f32.nearest A_c.width)), (Fl (FloatKind.f32.nearest A_c.height)), (Fl r122), Ud, Ud, (.tuple #[(.agg #[(Fl r27), (Fl r29), (Fl r31)]), (.agg #[(Fl r33), (Fl r35), (Fl r37)]), (.agg #[(Fl r39), (Fl r41), (Fl r43)])]), (Pt c_b c_o), (.tuple #[(.agg #[(Fl r27), (Fl r29), (Fl r31)]), (.agg #[(Fl r33), (Fl r35), (Fl r37)]), (.agg #[(Fl r39), (Fl r41), (Fl r43)])]), (.agg #[(Fl r27), (Fl r29), (Fl r31)]), (.agg #[(Fl r33), (Fl r35), (Fl r37)]), (.agg #[(Fl r39), (Fl r41), (Fl r43)]), (Pt c_b c_o), (Pt c_b c_o), (Pt c_b (c_o + 7)), (Iv A_c.width), (Fl (FloatKind.f32.nearest A_c.width)), (Pt c_b c_o), (Pt c_b c_o), (Pt c_b (c_o + 8)), (Iv A_c.height), (Fl (FloatKind.f32.nearest A_c.height)), (Iv x), (Fl (FloatKind.f32.nearest x)), (Fl r91), (Fl (FloatKind.f32.nearest A_c.width)), (Fl r96), (Fl r101), (Fl r106), (Fl r106), (Pt c_b c_o), (Pt c_b c_o), (Pt c_b (c_o + 6)), (Fl r13), (Fl r112), (Fl (FloatKind.f32.nearest A_c.width)), (Fl (FloatKind.f32.nearest A_c.height)), (Fl r117), (Fl r122), (Iv y), (Fl (FloatKind.f32.nearest y)), (Fl r128), (Fl (FloatKind.f32.nearest A_c.height)), (Fl r133), Ud, Ud, Ud, Ud, Ud, Ud, Ud, Ud, Ud, Ud, Ud, Ud, Ud, Ud, Ud, Ud, Ud, Ud, Ud, Ud, Ud, Ud, Ud]) _
  refine seqd rfl rfl (does_float (.inr (.inr (.inl rfl))) (ev rfl) (ev rfl)) ?_; rintro _ w141 ⟨r138, rfl, h139, E140⟩
  have X142 := Ext.gr X137 E140
  show wpList _ _ _ _ (fr [(Pt c_b c_o), (Iv x), (Iv y), Ud, Ud, Ud, (Pt b16 0), (Pt b46 0), (Pt b55 0), (Pt b65 0), (Fl (FloatKind.f32.nearest A_c.width)), (Fl (FloatKind.f32.nearest A_c.height)), (Fl r122), Ud, Ud, (.tuple #[(.agg #[(Fl r27), (Fl r29), (Fl r31)]), (.agg #[(Fl r33), (Fl r35), (Fl r37)]), (.agg #[(Fl r39), (Fl r41), (Fl r43)])]), (Pt c_b c_o), (.tuple #[(.agg #[(Fl r27), (Fl r29), (Fl r31)]), (.agg #[(Fl r33), (Fl r35), (Fl r37)]), (.agg #[(Fl r39), (Fl r41), (Fl r43)])]), (.agg #[(Fl r27), (Fl r29), (Fl r31)]), (.agg #[(Fl r33), (Fl r35), (Fl r37)]), (.agg #[(Fl r39), (Fl r41), (Fl r43)]), (Pt c_b c_o), (Pt c_b c_o), (Pt c_b (c_o + 7)), (Iv A_c.width), (Fl (FloatKind.f32.nearest A_c.width)), (Pt c_b c_o), (Pt c_b c_o), (Pt c_b (c_o + 8)), (Iv A_c.height), (Fl (FloatKind.f32.nearest A_c.height)), (Iv x), (Fl (FloatKind.f32.nearest x)), (Fl r91), (Fl (FloatKind.f32.nearest A_c.width)), (Fl r96), (Fl r101), (Fl r106), (Fl r106), (Pt c_b c_o), (Pt c_b c_o), (Pt c_b (c_o + 6)), (Fl r13), (Fl r112), (Fl (FloatKind.f32.nearest A_c.width)), (Fl (FloatKind.f32.nearest A_c.height)), (Fl r117), (Fl r122), (Iv y), (Fl (FloatKind.f32.nearest y)), (Fl r128), (Fl (FloatKind.f32.nearest A_c.height)), (Fl r133), (Fl r138), Ud, Ud, Ud, Ud, Ud, Ud, Ud, Ud, Ud, Ud, Ud, Ud, Ud, Ud, Ud, Ud, Ud, Ud, Ud, Ud, Ud, Ud]) _
  refine seqd rfl rfl (does_float (.inr (.inl rfl)) (ev rfl) (ev rfl)) ?_; rintro _ w146 ⟨r143, rfl, h144, E145⟩
  have X147 := Ext.gr X142 E145
  show wpList _ _ _ _ (fr [(Pt c_b c_o), (Iv x), (Iv y), Ud, Ud, Ud, (Pt b16 0), (Pt b46 0), (Pt b55 0), (Pt b65 0), (Fl (FloatKind.f32.nearest A_c.width)), (Fl (FloatKind.f32.nearest A_c.height)), (Fl r122), Ud, Ud, (.tuple #[(.agg #[(Fl r27), (Fl r29), (Fl r31)]), (.agg #[(Fl r33), (Fl r35), (Fl r37)]), (.agg #[(Fl r39), (Fl r41), (Fl r43)])]), (Pt c_b c_o), (.tuple #[(.agg #[(Fl r27), (Fl r29), (Fl r31)]), (.agg #[(Fl r33), (Fl r35), (Fl r37)]), (.agg #[(Fl r39), (Fl r41), (Fl r43)])]), (.agg #[(Fl r27), (Fl r29), (Fl r31)]), (.agg #[(Fl r33), (Fl r35), (Fl r37)]), (.agg #[(Fl r39), (Fl r41), (Fl r43)]), (Pt c_b c_o), (Pt c_b c_o), (Pt c_b (c_o + 7)), (Iv A_c.width), (Fl (FloatKind.f32.nearest A_c.width)), (Pt c_b c_o), (Pt c_b c_o), (Pt c_b (c_o + 8)), (Iv A_c.height), (Fl (FloatKind.f32.nearest A_c.height)), (Iv x), (Fl (FloatKind.f32.nearest x)), (Fl r91), (Fl (FloatKind.f32.nearest A_c.width)), (Fl r96), (Fl r101), (Fl r106), (Fl r106), (Pt c_b c_o), (Pt c_b c_o), (Pt c_b (c_o + 6)), (Fl r13), (Fl r112), (Fl (FloatKind.f32.nearest A_c.width)), (Fl (FloatKind.f32.nearest A_c.height)), (Fl r117), (Fl r122), (Iv y), (Fl (FloatKind.f32.nearest y)), (Fl r128), (Fl (FloatKind.f32.nearest A_c.height)), (Fl r133), (Fl r138), (Fl r143), Ud, Ud, Ud, Ud, Ud, Ud, Ud, Ud, Ud, Ud, Ud, Ud, Ud, Ud, Ud, Ud, Ud, Ud, Ud, Ud, Ud]) _
  refine q_is (l' := [(Pt c_b c_o), (Iv x), (Iv y), Ud, Ud, Ud, (Pt b16 0), (Pt b46 0), (Pt b55 0), (Pt b65 0), (Fl (FloatKind.f32.nearest A_c.width)), (Fl (FloatKind.f32.nearest A_c.height)), (Fl r122), (Fl r143), Ud, (.tuple #[(.agg #[(Fl r27), (Fl r29), (Fl r31)]), (.agg #[(Fl r33), (Fl r35), (Fl r37)]), (.agg #[(Fl r39), (Fl r41), (Fl r43)])]), (Pt c_b c_o), (.tuple #[(.agg #[(Fl r27), (Fl r29), (Fl r31)]), (.agg #[(Fl r33), (Fl r35), (Fl r37)]), (.agg #[(Fl r39), (Fl r41), (Fl r43)])]), (.agg #[(Fl r27), (Fl r29), (Fl r31)]), (.agg #[(Fl r33), (Fl r35), (Fl r37)]), (.agg #[(Fl r39), (Fl r41), (Fl r43)]), (Pt c_b c_o), (Pt c_b c_o), (Pt c_b (c_o + 7)), (Iv A_c.width), (Fl (FloatKind.f32.nearest A_c.width)), (Pt c_b c_o), (Pt c_b c_o), (Pt c_b (c_o + 8)), (Iv A_c.height), (Fl (FloatKind.f32.nearest A_c.height)), (Iv x), (Fl (FloatKind.f32.nearest x)), (Fl r91), (Fl (FloatKind.f32.nearest A_c.width)), (Fl r96), (Fl r101), (Fl r106), (Fl r106), (Pt c_b c_o), (Pt c_b c_o), (Pt c_b (c_o + 6)), (Fl r13), (Fl r112), (Fl (FloatKind.f32.nearest A_c.width)), (Fl (FloatKind.f32.nearest A_c.height)), (Fl r117), (Fl r122), (Iv y), (Fl (FloatKind.f32.nearest y)), (Fl r128), (Fl (FloatKind.f32.nearest A_c.height)), (Fl r133), (Fl r138), (Fl r143), Ud, Ud, Ud, Ud, Ud, Ud, Ud, Ud, Ud, Ud, Ud, Ud, Ud, Ud, Ud, Ud, Ud, Ud, Ud, Ud, Ud]) rfl rfl (does_assign (u := (Fl r143)) (ev rfl)) rfl ?_
  refine wpList_nil (hK127 _ _ ?_)
  refine wp_seq_k fun K148 hK148 => ?_
  refine wp_region_lit ?_
  refine q_is (l' := [(Pt c_b c_o), (Iv x), (Iv y), Ud, Ud, Ud, (Pt b16 0), (Pt b46 0), (Pt b55 0), (Pt b65 0), (Fl (FloatKind.f32.nearest A_c.width)), (Fl (FloatKind.f32.nearest A_c.height)), (Fl r122), (Fl r143), Ud, (.tuple #[(.agg #[(Fl r27), (Fl r29), (Fl r31)]), (.agg #[(Fl r33), (Fl r35), (Fl r37)]), (.agg #[(Fl r39), (Fl r41), (Fl r43)])]), (Pt c_b c_o), (.tuple #[(.agg #[(Fl r27), (Fl r29), (Fl r31)]), (.agg #[(Fl r33), (Fl r35), (Fl r37)]), (.agg #[(Fl r39), (Fl r41), (Fl r43)])]), (.agg #[(Fl r27), (Fl r29), (Fl r31)]), (.agg #[(Fl r33), (Fl r35), (Fl r37)]), (.agg #[(Fl r39), (Fl r41), (Fl r43)]), (Pt c_b c_o), (Pt c_b c_o), (Pt c_b (c_o + 7)), (Iv A_c.width), (Fl (FloatKind.f32.nearest A_c.width)), (Pt c_b c_o), (Pt c_b c_o), (Pt c_b (c_o + 8)), (Iv A_c.height), (Fl (FloatKind.f32.nearest A_c.height)), (Iv x), (Fl (FloatKind.f32.nearest x)), (Fl r91), (Fl (FloatKind.f32.nearest A_c.width)), (Fl r96), (Fl r101), (Fl r106), (Fl r106), (Pt c_b c_o), (Pt c_b c_o), (Pt c_b (c_o + 6)), (Fl r13), (Fl r112), (Fl (FloatKind.f32.nearest A_c.width)), (Fl (FloatKind.f32.nearest A_c.height)), (Fl r117), (Fl r122), (Iv y), (Fl (FloatKind.f32.nearest y)), (Fl r128), (Fl (FloatKind.f32.nearest A_c.height)), (Fl r133), (Fl r138), (Fl r143), (Fl r143), Ud, Ud, Ud, Ud, Ud, Ud, Ud, Ud, Ud, Ud, Ud, Ud, Ud, Ud, Ud, Ud, Ud, Ud, Ud, Ud]) rfl rfl (does_move (u := (Fl r143)) (ev rfl)) rfl ?_
  refine q_is (l' := [(Pt c_b c_o), (Iv x), (Iv y), Ud, Ud, Ud, (Pt b16 0), (Pt b46 0), (Pt b55 0), (Pt b65 0), (Fl (FloatKind.f32.nearest A_c.width)), (Fl (FloatKind.f32.nearest A_c.height)), (Fl r122), (Fl r143), Ud, (.tuple #[(.agg #[(Fl r27), (Fl r29), (Fl r31)]), (.agg #[(Fl r33), (Fl r35), (Fl r37)]), (.agg #[(Fl r39), (Fl r41), (Fl r43)])]), (Pt c_b c_o), (.tuple #[(.agg #[(Fl r27), (Fl r29), (Fl r31)]), (.agg #[(Fl r33), (Fl r35), (Fl r37)]), (.agg #[(Fl r39), (Fl r41), (Fl r43)])]), (.agg #[(Fl r27), (Fl r29), (Fl r31)]), (.agg #[(Fl r33), (Fl r35), (Fl r37)]), (.agg #[(Fl r39), (Fl r41), (Fl r43)]), (Pt c_b c_o), (Pt c_b c_o), (Pt c_b (c_o + 7)), (Iv A_c.width), (Fl (FloatKind.f32.nearest A_c.width)), (Pt c_b c_o), (Pt c_b c_o), (Pt c_b (c_o + 8)), (Iv A_c.height), (Fl (FloatKind.f32.nearest A_c.height)), (Iv x), (Fl (FloatKind.f32.nearest x)), (Fl r91), (Fl (FloatKind.f32.nearest A_c.width)), (Fl r96), (Fl r101), (Fl r106), (Fl r106), (Pt c_b c_o), (Pt c_b c_o), (Pt c_b (c_o + 6)), (Fl r13), (Fl r112), (Fl (FloatKind.f32.nearest A_c.width)), (Fl (FloatKind.f32.nearest A_c.height)), (Fl r117), (Fl r122), (Iv y), (Fl (FloatKind.f32.nearest y)), (Fl r128), (Fl (FloatKind.f32.nearest A_c.height)), (Fl r133), (Fl r138), (Fl r143), (Fl r143), (Pt c_b c_o), Ud, Ud, Ud, Ud, Ud, Ud, Ud, Ud, Ud, Ud, Ud, Ud, Ud, Ud, Ud, Ud, Ud, Ud, Ud]) rfl rfl (does_move (u := (Pt c_b c_o)) (ev rfl)) rfl ?_
  refine q_is (l' := [(Pt c_b c_o), (Iv x), (Iv y), Ud, Ud, Ud, (Pt b16 0), (Pt b46 0), (Pt b55 0), (Pt b65 0), (Fl (FloatKind.f32.nearest A_c.width)), (Fl (FloatKind.f32.nearest A_c.height)), (Fl r122), (Fl r143), Ud, (.tuple #[(.agg #[(Fl r27), (Fl r29), (Fl r31)]), (.agg #[(Fl r33), (Fl r35), (Fl r37)]), (.agg #[(Fl r39), (Fl r41), (Fl r43)])]), (Pt c_b c_o), (.tuple #[(.agg #[(Fl r27), (Fl r29), (Fl r31)]), (.agg #[(Fl r33), (Fl r35), (Fl r37)]), (.agg #[(Fl r39), (Fl r41), (Fl r43)])]), (.agg #[(Fl r27), (Fl r29), (Fl r31)]), (.agg #[(Fl r33), (Fl r35), (Fl r37)]), (.agg #[(Fl r39), (Fl r41), (Fl r43)]), (Pt c_b c_o), (Pt c_b c_o), (Pt c_b (c_o + 7)), (Iv A_c.width), (Fl (FloatKind.f32.nearest A_c.width)), (Pt c_b c_o), (Pt c_b c_o), (Pt c_b (c_o + 8)), (Iv A_c.height), (Fl (FloatKind.f32.nearest A_c.height)), (Iv x), (Fl (FloatKind.f32.nearest x)), (Fl r91), (Fl (FloatKind.f32.nearest A_c.width)), (Fl r96), (Fl r101), (Fl r106), (Fl r106), (Pt c_b c_o), (Pt c_b c_o), (Pt c_b (c_o + 6)), (Fl r13), (Fl r112), (Fl (FloatKind.f32.nearest A_c.width)), (Fl (FloatKind.f32.nearest A_c.height)), (Fl r117), (Fl r122), (Iv y), (Fl (FloatKind.f32.nearest y)), (Fl r128), (Fl (FloatKind.f32.nearest A_c.height)), (Fl r133), (Fl r138), (Fl r143), (Fl r143), (Pt c_b c_o), (Pt c_b c_o), Ud, Ud, Ud, Ud, Ud, Ud, Ud, Ud, Ud, Ud, Ud, Ud, Ud, Ud, Ud, Ud, Ud, Ud]) rfl rfl (does_nilCheck (ev rfl)) rfl ?_
  refine q_is (l' := [(Pt c_b c_o), (Iv x), (Iv y), Ud, Ud, Ud, (Pt b16 0), (Pt b46 0), (Pt b55 0), (Pt b65 0), (Fl (FloatKind.f32.nearest A_c.width)), (Fl (FloatKind.f32.nearest A_c.height)), (Fl r122), (Fl r143), Ud, (.tuple #[(.agg #[(Fl r27), (Fl r29), (Fl r31)]), (.agg #[(Fl r33), (Fl r35), (Fl r37)]), (.agg #[(Fl r39), (Fl r41), (Fl r43)])]), (Pt c_b c_o), (.tuple #[(.agg #[(Fl r27), (Fl r29), (Fl r31)]), (.agg #[(Fl r33), (Fl r35), (Fl r37)]), (.agg #[(Fl r39), (Fl r41), (Fl r43)])]), (.agg #[(Fl r27), (Fl r29), (Fl r31)]), (.agg #[(Fl r33), (Fl r35), (Fl r37)]), (.agg #[(Fl r39), (Fl r41), (Fl r43)]), (Pt c_b c_o), (Pt c_b c_o), (Pt c_b (c_o + 7)), (Iv A_c.width), (Fl (FloatKind.f32.nearest A_c.width)), (Pt c_b c_o), (Pt c_b c_o), (Pt c_b (c_o + 8)), (Iv A_c.height), (Fl (FloatKind.f32.nearest A_c.height)), (Iv x), (Fl (FloatKind.f32.nearest x)), (Fl r91), (Fl (FloatKind.f32.nearest A_c.width)), (Fl r96), (Fl r101), (Fl r106), (Fl r106), (Pt c_b c_o), (Pt c_b c_o), (Pt c_b (c_o + 6)), (Fl r13), (Fl r112), (Fl (FloatKind.f32.nearest A_c.width)), (Fl (FloatKind.f32.nearest A_c.height)), (Fl r117), (Fl r122), (Iv y), (Fl (FloatKind.f32.nearest y)), (Fl r128), (Fl (FloatKind.f32.nearest A_c.height)), (Fl r133), (Fl r138), (Fl r143), (Fl r143), (Pt c_b c_o), (Pt c_b c_o), (Pt c_b (c_o + 6)), Ud, Ud, Ud, Ud, Ud, Ud, Ud, Ud, Ud, Ud, Ud, Ud, Ud, Ud, Ud, Ud, Ud]) rfl rfl (does_fieldAddr (ev rfl) fa48_2) rfl ?_
  refine q_is (l' := [(Pt c_b c_o), (Iv x), (Iv y), Ud, Ud, Ud, (Pt b16 0), (Pt b46 0), (Pt b55 0), (Pt b65 0), (Fl (FloatKind.f32.nearest A_c.width)), (Fl (FloatKind.f32.nearest A_c.height)), (Fl r122), (Fl r143), Ud, (.tuple #[(.agg #[(Fl r27), (Fl r29), (Fl r31)]), (.agg #[(Fl r33), (Fl r35), (Fl r37)]), (.agg #[(Fl r39), (Fl r41), (Fl r43)])]), (Pt c_b c_o), (.tuple #[(.agg #[(Fl r27), (Fl r29), (Fl r31)]), (.agg #[(Fl r33), (Fl r35), (Fl r37)]), (.agg #[(Fl r39), (Fl r41), (Fl r43)])]), (.agg #[(Fl r27), (Fl r29), (Fl r31)]), (.agg #[(Fl r33), (Fl r35), (Fl r37)]), (.agg #[(Fl r39), (Fl r41), (Fl r43)]), (Pt c_b c_o), (Pt c_b c_o), (Pt c_b (c_o + 7)), (Iv A_c.width), (Fl (FloatKind.f32.nearest A_c.width)), (Pt c_b c_o), (Pt c_b c_o), (Pt c_b (c_o + 8)), (Iv A_c.height), (Fl (FloatKind.f32.nearest A_c.height)), (Iv x), (Fl (FloatKind.f32.nearest x)), (Fl r91), (Fl (FloatKind.f32.nearest A_c.width)), (Fl r96), (Fl r101), (Fl r106), (Fl r106), (Pt c_b c_o), (Pt c_b c_o), (Pt c_b (c_o + 6)), (Fl r13), (Fl r112), (Fl (FloatKind.f32.nearest A_c.width)), (Fl (FloatKind.f32.nearest A_c.height)), (Fl r117), (Fl r122), (Iv y), (Fl (FloatKind.f32.nearest y)), (Fl r128), (Fl (FloatKind.f32.nearest A_c.height)), (Fl r133), (Fl r138), (Fl r143), (Fl r143), (Pt c_b c_o), (Pt c_b c_o), (Pt c_b (c_o + 6)), (Fl r13), Ud, Ud, Ud, Ud, Ud, Ud, Ud, Ud, Ud, Ud, Ud, Ud, Ud, Ud, Ud, Ud]) rfl rfl (does_load (u := (Fl r13)) (ev rfl) Try.isAgg24 (Cells.at (hc_c.ext X147) 6 rfl)) rfl ?_
  refine seqd rfl rfl (does_float (.inr (.inr (.inl rfl))) (ev rfl) (ev rfl)) ?_; rintro _ w152 ⟨r149, rfl, h150, E151⟩
  have X153 := Ext.gr X147 E151
  show wpList _ _ _ _ (fr [(Pt c_b c_o), (Iv x), (Iv y), Ud, Ud, Ud, (Pt b16 0), (Pt b46 0), (Pt b55 0), (Pt b65 0), (Fl (FloatKind.f32.nearest A_c.width)), (Fl (FloatKind.f32.nearest A_c.height)), (Fl r122), (Fl r143), Ud, (.tuple #[(.agg #[(Fl r27), (Fl r29), (Fl r31)]), (.agg #[(Fl r33), (Fl r35), (Fl r37)]), (.agg #[(Fl r39), (Fl r41), (Fl r43)])]), (Pt c_b c_o), (.tuple #[(.agg #[(Fl r27), (Fl r29), (Fl r31)]), (.agg #[(Fl r33), (Fl r35), (Fl r37)]), (.agg #[(Fl r39), (Fl r41), (Fl r43)])]), (.agg #[(Fl r27), (Fl r29), (Fl r31)]), (.agg #[(Fl r33), (Fl r35), (Fl r37)]), (.agg #[(Fl r39), (Fl r41), (Fl r43)]), (Pt c_b c_o), (Pt c_b c_o), (Pt c_b (c_o + 7)), (Iv A_c.width), (Fl (FloatKind.f32.nearest A_c.width)), (Pt c_b c_o), (Pt c_b c_o), (Pt c_b (c_o + 8)), (Iv A_c.height), (Fl (FloatKind.f32.nearest A_c.height)), (Iv x), (Fl (FloatKind.f32.nearest x)), (Fl r91), (Fl (FloatKind.f32.nearest A_c.width)), (Fl r96), (Fl r101), (Fl r106), (Fl r106), (Pt c_b c_o), (Pt c_b c_o), (Pt c_b (c_o + 6)), (Fl r13), (Fl r112), (Fl (FloatKind.f32.nearest A_c.width)), (Fl (FloatKind.f32.nearest A_c.height)), (Fl r117), (Fl r122), (Iv y), (Fl (FloatKind.f32.nearest y)), (Fl r128), (Fl (FloatKind.f32.nearest A_c.height)), (Fl r133), (Fl r138), (Fl r143), (Fl r143), (Pt c_b c_o), (Pt c_b c_o), (Pt c_b (c_o + 6)), (Fl r13), (Fl r149), Ud, Ud, Ud, Ud, Ud, Ud, Ud, Ud, Ud, Ud, Ud, Ud, Ud, Ud, Ud]) _
  refine q_is (l' := [(Pt c_b c_o), (Iv x), (Iv y), Ud, Ud, Ud, (Pt b16 0), (Pt b46 0), (Pt b55 0), (Pt b65 0), (Fl (FloatKind.f32.nearest A_c.width)), (Fl (FloatKind.f32.nearest A_c.height)), (Fl r122), (Fl r149), Ud, (.tuple #[(.agg #[(Fl r27), (Fl r29), (Fl r31)]), (.agg #[(Fl r33), (Fl r35), (Fl r37)]), (.agg #[(Fl r39), (Fl r41), (Fl r43)])]), (Pt c_b c_o), (.tuple #[(.agg #[(Fl r27), (Fl r29), (Fl r31)]), (.agg #[(Fl r33), (Fl r35), (Fl r37)]), (.agg #[(Fl r39), (Fl r41), (Fl r43)])]), (.agg #[(Fl r27), (Fl r29), (Fl r31)]), (.agg #[(Fl r33), (Fl r35), (Fl r37)]), (.agg #[(Fl r39), (Fl r41), (Fl r43)]), (Pt c_b c_o), (Pt c_b c_o), (Pt c_b (c_o + 7)), (Iv A_c.width), (Fl (FloatKind.f32.nearest A_c.width)), (Pt c_b c_o), (Pt c_b c_o), (Pt c_b (c_o + 8)), (Iv A_c.height), (Fl (FloatKind.f32.nearest A_c.height)), (Iv x), (Fl (FloatKind.f32.nearest x)), (Fl r91), (Fl (FloatKind.f32.nearest A_c.width)), (Fl r96), (Fl r101), (Fl r106), (Fl r106), (Pt c_b c_o), (Pt c_b c_o), (Pt c_b (c_o + 6)), (Fl r13), (Fl r112), (Fl (FloatKind.f32.nearest A_c.width)), (Fl (FloatKind.f32.nearest A_c.height)), (Fl r117), (Fl r122), (Iv y), (Fl (FloatKind.f32.nearest y)), (Fl r128), (Fl (FloatKind.f32.nearest A_c.height)), (Fl r133), (Fl r138), (Fl r143), (Fl r143), (Pt c_b c_o), (Pt c_b c_o), (Pt c_b (c_o + 6)), (Fl r13), (Fl r149), Ud, Ud, Ud, Ud, Ud, Ud, Ud, Ud, Ud, Ud, Ud, Ud, Ud, Ud, Ud]) rfl rfl (does_assign (u := (Fl r149)) (ev rfl)) rfl ?_
  refine wpList_nil (hK148 _ _ ?_)
  refine wp_seq_k fun K154 hK154 => ?_
  refine region_draw (
    [Fact.pure [] (fun v => v = (.agg #[(Fl r39), (Fl r41), (Fl r43)])),
    Fact.pure [] (fun v => v = (.agg #[(Fl r27), (Fl r29), (Fl r31)])),
    Fact.pure [] (fun v => v = (Fl r122)),
    Fact.pure [62, 63] (fun v => ∃ cs_1 : List Value, v = (.agg cs_1.toArray) ∧ RV3 w (vscale (rgtC A_c) (cf .f32 r122)) cs_1),
    Fact.pure [61, 64] (fun v => ∃ cs_1 : List Value, v = (.agg cs_1.toArray) ∧ RV3 w (vadd (fwdC A_c) (vscale (rgtC A_c) (cf .f32 r122))) cs_1),
    Fact.pure [] (fun v => v = (.agg #[(Fl r33), (Fl r35), (Fl r37)])),
    Fact.pure [] (fun v => v = (Fl r149)),
    Fact.pure [66, 67] (fun v => ∃ cs_1 : List Value, v = (.agg cs_1.toArray) ∧ RV3 w (vscale (upC A_c) (cf .f32 r149)) cs_1),
    Fact.pure [65, 68] (fun v => ∃ cs_1 : List Value, v = (.agg cs_1.toArray) ∧ RV3 w (vadd (vadd (fwdC A_c) (vscale (rgtC A_c) (cf .f32 r122))) (vscale (upC A_c) (cf .f32 r149))) cs_1),
    Fact.mem [] (fun v w' => ∃ b : Nat, v = .pointer (some ⟨b, 0, none⟩) ∧ w152.heap.size ≤ b ∧ Blk w' b [(Fl 0), (Fl 0), (Fl 0)]) (by rintro v w1 w2 hx ⟨b, rfl, hb, hB⟩; exact ⟨b, rfl, hb, (hB.ext hx)⟩)]) mixed (by kernel_rfl) (by intro _ _ d _ _ h; cases d <;> exact h) ?_
  obtain ⟨w155, hw157⟩ : ∃ w', w' = World.drew w152 := ⟨_, rfl⟩; rw [← hw157]; have E156 : Ext w152 w155 := by rw [hw157]; exact Ext.draw _
  clear hw157
  have X158 := Ext.gr X153 E156
  refine RW_d (fun v159 => [(Pt c_b c_o), (Iv x), (Iv y), Ud, Ud, Ud, (Pt b16 0), (Pt b46 0), (Pt b55 0), (Pt b65 0), (Fl (FloatKind.f32.nearest A_c.width)), (Fl (FloatKind.f32.nearest A_c.height)), (Fl r122), (Fl r149), Ud, (.tuple #[(.agg #[(Fl r27), (Fl r29), (Fl r31)]), (.agg #[(Fl r33), (Fl r35), (Fl r37)]), (.agg #[(Fl r39), (Fl r41), (Fl r43)])]), (Pt c_b c_o), (.tuple #[(.agg #[(Fl r27), (Fl r29), (Fl r31)]), (.agg #[(Fl r33), (Fl r35), (Fl r37)]), (.agg #[(Fl r39), (Fl r41), (Fl r43)])]), (.agg #[(Fl r27), (Fl r29), (Fl r31)]), (.agg #[(Fl r33), (Fl r35), (Fl r37)]), (.agg #[(Fl r39), (Fl r41), (Fl r43)]), (Pt c_b c_o), (Pt c_b c_o), (Pt c_b (c_o + 7)), (Iv A_c.width), (Fl (FloatKind.f32.nearest A_c.width)), (Pt c_b c_o), (Pt c_b c_o), (Pt c_b (c_o + 8)), (Iv A_c.height), (Fl (FloatKind.f32.nearest A_c.height)), (Iv x), (Fl (FloatKind.f32.nearest x)), (Fl r91), (Fl (FloatKind.f32.nearest A_c.width)), (Fl r96), (Fl r101), (Fl r106), (Fl r106), (Pt c_b c_o), (Pt c_b c_o), (Pt c_b (c_o + 6)), (Fl r13), (Fl r112), (Fl (FloatKind.f32.nearest A_c.width)), (Fl (FloatKind.f32.nearest A_c.height)), (Fl r117), (Fl r122), (Iv y), (Fl (FloatKind.f32.nearest y)), (Fl r128), (Fl (FloatKind.f32.nearest A_c.height)), (Fl r133), (Fl r138), (Fl r143), (Fl r143), (Pt c_b c_o), (Pt c_b c_o), (Pt c_b (c_o + 6)), (Fl r13), (Fl r149), v159, Ud, Ud, Ud, Ud, Ud, Ud, Ud, Ud, Ud, Ud, Ud, Ud, Ud, Ud]) rfl (fun _ => rfl) (fun u hu hF => ?_) (fun v159 => ?_)
  · clear hF
    refine doesG_un rfl ?_
    refine (does_loadAgg (cs := [(Fl r39), (Fl r41), (Fl r43)]) (ev rfl) Try.isAgg26 Try.sizeOf26 (Blk.cells ((((((((((((((hB85.ext E93).ext E98).ext E103).ext E108).ext E114).ext E119).ext E124).ext E130).ext E135).ext E140).ext E145).ext E151).ext E156).ext hu)) rfl).mono ?_; rintro _ _ ⟨rfl, rfl⟩
    exact ⟨rfl, Ext.refl _⟩
  refine RW_d (fun v160 => [(Pt c_b c_o), (Iv x), (Iv y), Ud, Ud, Ud, (Pt b16 0), (Pt b46 0), (Pt b55 0), (Pt b65 0), (Fl (FloatKind.f32.nearest A_c.width)), (Fl (FloatKind.f32.nearest A_c.height)), (Fl r122), (Fl r149), Ud, (.tuple #[(.agg #[(Fl r27), (Fl r29), (Fl r31)]), (.agg #[(Fl r33), (Fl r35), (Fl r37)]), (.agg #[(Fl r39), (Fl r41), (Fl r43)])]), (Pt c_b c_o), (.tuple #[(.agg #[(Fl r27), (Fl r29), (Fl r31)]), (.agg #[(Fl r33), (Fl r35), (Fl r37)]), (.agg #[(Fl r39), (Fl r41), (Fl r43)])]), (.agg #[(Fl r27), (Fl r29), (Fl r31)]), (.agg #[(Fl r33), (Fl r35), (Fl r37)]), (.agg #[(Fl r39), (Fl r41), (Fl r43)]), (Pt c_b c_o), (Pt c_b c_o), (Pt c_b (c_o + 7)), (Iv A_c.width), (Fl (FloatKind.f32.nearest A_c.width)), (Pt c_b c_o), (Pt c_b c_o), (Pt c_b (c_o + 8)), (Iv A_c.height), (Fl (FloatKind.f32.nearest A_c.height)), (Iv x), (Fl (FloatKind.f32.nearest x)), (Fl r91), (Fl (FloatKind.f32.nearest A_c.width)), (Fl r96), (Fl r101), (Fl r106), (Fl r106), (Pt c_b c_o), (Pt c_b c_o), (Pt c_b (c_o + 6)), (Fl r13), (Fl r112), (Fl (FloatKind.f32.nearest A_c.width)), (Fl (FloatKind.f32.nearest A_c.height)), (Fl r117), (Fl r122), (Iv y), (Fl (FloatKind.f32.nearest y)), (Fl r128), (Fl (FloatKind.f32.nearest A_c.height)), (Fl r133), (Fl r138), (Fl r143), (Fl r143), (Pt c_b c_o), (Pt c_b c_o), (Pt c_b (c_o + 6)), (Fl r13), (Fl r149), v159, v160, Ud, Ud, Ud, Ud, Ud, Ud, Ud, Ud, Ud, Ud, Ud, Ud, Ud]) rfl (fun _ => rfl) (fun u hu hF => ?_) (fun v160 => ?_)
  · clear hF
    refine doesG_un rfl ?_
    refine (does_loadAgg (cs := [(Fl r27), (Fl r29), (Fl r31)]) (ev rfl) Try.isAgg26 Try.sizeOf26 (Blk.cells ((((((((((((((((hB77.wr W80 (Nat.ne_of_lt n62)).wr W84 (Nat.ne_of_lt n72)).ext E93).ext E98).ext E103).ext E108).ext E114).ext E119).ext E124).ext E130).ext E135).ext E140).ext E145).ext E151).ext E156).ext hu)) rfl).mono ?_; rintro _ _ ⟨rfl, rfl⟩
    exact ⟨rfl, Ext.refl _⟩
  refine RW_d (fun v161 => [(Pt c_b c_o), (Iv x), (Iv y), Ud, Ud, Ud, (Pt b16 0), (Pt b46 0), (Pt b55 0), (Pt b65 0), (Fl (FloatKind.f32.nearest A_c.width)), (Fl (FloatKind.f32.nearest A_c.height)), (Fl r122), (Fl r149), Ud, (.tuple #[(.agg #[(Fl r27), (Fl r29), (Fl r31)]), (.agg #[(Fl r33), (Fl r35), (Fl r37)]), (.agg #[(Fl r39), (Fl r41), (Fl r43)])]), (Pt c_b c_o), (.tuple #[(.agg #[(Fl r27), (Fl r29), (Fl r31)]), (.agg #[(Fl r33), (Fl r35), (Fl r37)]), (.agg #[(Fl r39), (Fl r41), (Fl r43)])]), (.agg #[(Fl r27), (Fl r29), (Fl r31)]), (.agg #[(Fl r33), (Fl r35), (Fl r37)]), (.agg #[(Fl r39), (Fl r41), (Fl r43)]), (Pt c_b c_o), (Pt c_b c_o), (Pt c_b (c_o + 7)), (Iv A_c.width), (Fl (FloatKind.f32.nearest A_c.width)), (Pt c_b c_o), (Pt c_b c_o), (Pt c_b (c_o + 8)), (Iv A_c.height), (Fl (FloatKind.f32.nearest A_c.height)), (Iv x), (Fl (FloatKind.f32.nearest x)), (Fl r91), (Fl (FloatKind.f32.nearest A_c.width)), (Fl r96), (Fl r101), (Fl r106), (Fl r106), (Pt c_b c_o), (Pt c_b c_o), (Pt c_b (c_o + 6)), (Fl r13), (Fl r112), (Fl (FloatKind.f32.nearest A_c.width)), (Fl (FloatKind.f32.nearest A_c.height)), (Fl r117), (Fl r122), (Iv y), (Fl (FloatKind.f32.nearest y)), (Fl r128), (Fl (FloatKind.f32.nearest A_c.height)), (Fl r133), (Fl r138), (Fl r143), (Fl r143), (Pt c_b c_o), (Pt c_b c_o), (Pt c_b (c_o + 6)), (Fl r13), (Fl r149), v159, v160, v161, Ud, Ud, Ud, Ud, Ud, Ud, Ud, Ud, Ud, Ud, Ud, Ud]) rfl (fun _ => rfl) (fun u hu hF => ?_) (fun v161 => ?_)
  · clear hF
    refine doesG_un rfl ?_
    refine (does_move (u := (Fl r122)) (ev rfl)).mono ?_; rintro _ _ ⟨rfl, rfl⟩
    exact ⟨rfl, Ext.refl _⟩
  refine RW_d (fun v162 => [(Pt c_b c_o), (Iv x), (Iv y), Ud, Ud, Ud, (Pt b16 0), (Pt b46 0), (Pt b55 0), (Pt b65 0), (Fl (FloatKind.f32.nearest A_c.width)), (Fl (FloatKind.f32.nearest A_c.height)), (Fl r122), (Fl r149), Ud, (.tuple #[(.agg #[(Fl r27), (Fl r29), (Fl r31)]), (.agg #[(Fl r33), (Fl r35), (Fl r37)]), (.agg #[(Fl r39), (Fl r41), (Fl r43)])]), (Pt c_b c_o), (.tuple #[(.agg #[(Fl r27), (Fl r29), (Fl r31)]), (.agg #[(Fl r33), (Fl r35), (Fl r37)]), (.agg #[(Fl r39), (Fl r41), (Fl r43)])]), (.agg #[(Fl r27), (Fl r29), (Fl r31)]), (.agg #[(Fl r33), (Fl r35), (Fl r37)]), (.agg #[(Fl r39), (Fl r41), (Fl r43)]), (Pt c_b c_o), (Pt c_b c_o), (Pt c_b (c_o + 7)), (Iv A_c.width), (Fl (FloatKind.f32.nearest A_c.width)), (Pt c_b c_o), (Pt c_b c_o), (Pt c_b (c_o + 8)), (Iv A_c.height), (Fl (FloatKind.f32.nearest A_c.height)), (Iv x), (Fl (FloatKind.f32.nearest x)), (Fl r91), (Fl (FloatKind.f32.nearest A_c.width)), (Fl r96), (Fl r101), (Fl r106), (Fl r106), (Pt c_b c_o), (Pt c_b c_o), (Pt c_b (c_o + 6)), (Fl r13), (Fl r112), (Fl (FloatKind.f32.nearest A_c.width)), (Fl (FloatKind.f32.nearest A_c.height)), (Fl r117), (Fl r122), (Iv y), (Fl (FloatKind.f32.nearest y)), (Fl r128), (Fl (FloatKind.f32.nearest A_c.height)), (Fl r133), (Fl r138), (Fl r143), (Fl r143), (Pt c_b c_o), (Pt c_b c_o), (Pt c_b (c_o + 6)), (Fl r13), (Fl r149), v159, v160, v161, v162, Ud, Ud, Ud, Ud, Ud, Ud, Ud, Ud, Ud, Ud, Ud]) rfl (fun _ => rfl) (fun u hu hF => ?_) (fun v162 => ?_)
  · have h62_ : v160 = (.agg #[(Fl r27), (Fl r29), (Fl r31)]) := hF.1
    have h63_ : v161 = (Fl r122) := hF.2.1
    clear hF
    refine doesG_un rfl ?_
    obtain rfl := h62_
    obtain rfl := h63_
    refine (does_call (args := #[(.agg #[(Fl r27), (Fl r29), (Fl r31)]), (Fl r122)]) cal86 (evs rfl) (c_spec_l01Scale [(Fl r27), (Fl r29), (Fl r31)] (rgtC A_c) r122 _ ⟨r27, r29, r31, rfl, h28, h30, h32⟩)).mono ?_; rintro v u' ⟨hx, ⟨csn1, hv, k0⟩⟩
    exact ⟨⟨csn1, hv, k0⟩, hx⟩
  refine RW_d (fun v163 => [(Pt c_b c_o), (Iv x), (Iv y), Ud, Ud, Ud, (Pt b16 0), (Pt b46 0), (Pt b55 0), (Pt b65 0), (Fl (FloatKind.f32.nearest A_c.width)), (Fl (FloatKind.f32.nearest A_c.height)), (Fl r122), (Fl r149), Ud, (.tuple #[(.agg #[(Fl r27), (Fl r29), (Fl r31)]), (.agg #[(Fl r33), (Fl r35), (Fl r37)]), (.agg #[(Fl r39), (Fl r41), (Fl r43)])]), (Pt c_b c_o), (.tuple #[(.agg #[(Fl r27), (Fl r29), (Fl r31)]), (.agg #[(Fl r33), (Fl r35), (Fl r37)]), (.agg #[(Fl r39), (Fl r41), (Fl r43)])]), (.agg #[(Fl r27), (Fl r29), (Fl r31)]), (.agg #[(Fl r33), (Fl r35), (Fl r37)]), (.agg #[(Fl r39), (Fl r41), (Fl r43)]), (Pt c_b c_o), (Pt c_b c_o), (Pt c_b (c_o + 7)), (Iv A_c.width), (Fl (FloatKind.f32.nearest A_c.width)), (Pt c_b c_o), (Pt c_b c_o), (Pt c_b (c_o + 8)), (Iv A_c.height), (Fl (FloatKind.f32.nearest A_c.height)), (Iv x), (Fl (FloatKind.f32.nearest x)), (Fl r91), (Fl (FloatKind.f32.nearest A_c.width)), (Fl r96), (Fl r101), (Fl r106), (Fl r106), (Pt c_b c_o), (Pt c_b c_o), (Pt c_b (c_o + 6)), (Fl r13), (Fl r112), (Fl (FloatKind.f32.nearest A_c.width)), (Fl (FloatKind.f32.nearest A_c.height)), (Fl r117), (Fl r122), (Iv y), (Fl (FloatKind.f32.nearest y)), (Fl r128), (Fl (FloatKind.f32.nearest A_c.height)), (Fl r133), (Fl r138), (Fl r143), (Fl r143), (Pt c_b c_o), (Pt c_b c_o), (Pt c_b (c_o + 6)), (Fl r13), (Fl r149), v159, v160, v161, v162, v163, Ud, Ud, Ud, Ud, Ud, Ud, Ud, Ud, Ud, Ud]) rfl (fun _ => rfl) (fun u hu hF => ?_) (fun v163 => ?_)
  · have h61_ : v159 = (.agg #[(Fl r39), (Fl r41), (Fl r43)]) := hF.1
    have h64_ : ∃ cs_1 : List Value, v162 = (.agg cs_1.toArray) ∧ RV3 w (vscale (rgtC A_c) (cf .f32 r122)) cs_1 := hF.2.1
    clear hF
    refine doesG_un rfl ?_
    obtain rfl := h61_
    obtain ⟨_, rfl, ⟨r64_1, r64_3, r64_5, rfl, h64_2, h64_4, h64_6⟩⟩ := h64_
    refine (does_call (args := #[(.agg #[(Fl r39), (Fl r41), (Fl r43)]), (.agg #[(Fl r64_1), (Fl r64_3), (Fl r64_5)])]) cal87 (evs rfl) (c_spec_l01Add [(Fl r39), (Fl r41), (Fl r43)] (fwdC A_c) [(Fl r64_1), (Fl r64_3), (Fl r64_5)] (vscale (rgtC A_c) (cf .f32 r122)) _ ⟨r39, r41, r43, rfl, h40, h42, h44⟩ ⟨r64_1, r64_3, r64_5, rfl, (by assumption), (by assumption), (by assumption)⟩)).mono ?_; rintro v u' ⟨hx, ⟨csn1, hv, k0⟩⟩
    exact ⟨⟨csn1, hv.trans (by simp only [h64_2, h64_4, h64_6]), (by first | exact k0 | simpa only [h64_2, h64_4, h64_6] using RV3.any (w := w) k0)⟩, hx⟩
  refine RW_d (fun v164 => [(Pt c_b c_o), (Iv x), (Iv y), Ud, Ud, Ud, (Pt b16 0), (Pt b46 0), (Pt b55 0), (Pt b65 0), (Fl (FloatKind.f32.nearest A_c.width)), (Fl (FloatKind.f32.nearest A_c.height)), (Fl r122), (Fl r149), Ud, (.tuple #[(.agg #[(Fl r27), (Fl r29), (Fl r31)]), (.agg #[(Fl r33), (Fl r35), (Fl r37)]), (.agg #[(Fl r39), (Fl r41), (Fl r43)])]), (Pt c_b c_o), (.tuple #[(.agg #[(Fl r27), (Fl r29), (Fl r31)]), (.agg #[(Fl r33), (Fl r35), (Fl r37)]), (.agg #[(Fl r39), (Fl r41), (Fl r43)])]), (.agg #[(Fl r27), (Fl r29), (Fl r31)]), (.agg #[(Fl r33), (Fl r35), (Fl r37)]), (.agg #[(Fl r39), (Fl r41), (Fl r43)]), (Pt c_b c_o), (Pt c_b c_o), (Pt c_b (c_o + 7)), (Iv A_c.width), (Fl (FloatKind.f32.nearest A_c.width)), (Pt c_b c_o), (Pt c_b c_o), (Pt c_b (c_o + 8)), (Iv A_c.height), (Fl (FloatKind.f32.nearest A_c.height)), (Iv x), (Fl (FloatKind.f32.nearest x)), (Fl r91), (Fl (FloatKind.f32.nearest A_c.width)), (Fl r96), (Fl r101), (Fl r106), (Fl r106), (Pt c_b c_o), (Pt c_b c_o), (Pt c_b (c_o + 6)), (Fl r13), (Fl r112), (Fl (FloatKind.f32.nearest A_c.width)), (Fl (FloatKind.f32.nearest A_c.height)), (Fl r117), (Fl r122), (Iv y), (Fl (FloatKind.f32.nearest y)), (Fl r128), (Fl (FloatKind.f32.nearest A_c.height)), (Fl r133), (Fl r138), (Fl r143), (Fl r143), (Pt c_b c_o), (Pt c_b c_o), (Pt c_b (c_o + 6)), (Fl r13), (Fl r149), v159, v160, v161, v162, v163, v164, Ud, Ud, Ud, Ud, Ud, Ud, Ud, Ud, Ud]) rfl (fun _ => rfl) (fun u hu hF => ?_) (fun v164 => ?_)
  · clear hF
    refine doesG_un rfl ?_
    refine (does_loadAgg (cs := [(Fl r33), (Fl r35), (Fl r37)]) (ev rfl) Try.isAgg26 Try.sizeOf26 (Blk.cells (((((((((((((((hB81.wr W84 (Nat.ne_of_lt n73)).ext E93).ext E98).ext E103).ext E108).ext E114).ext E119).ext E124).ext E130).ext E135).ext E140).ext E145).ext E151).ext E156).ext hu)) rfl).mono ?_; rintro _ _ ⟨rfl, rfl⟩
    exact ⟨rfl, Ext.refl _⟩
  refine RW_d (fun v165 => [(Pt c_b c_o), (Iv x), (Iv y), Ud, Ud, Ud, (Pt b16 0), (Pt b46 0), (Pt b55 0), (Pt b65 0), (Fl (FloatKind.f32.nearest A_c.width)), (Fl (FloatKind.f32.nearest A_c.height)), (Fl r122), (Fl r149), Ud, (.tuple #[(.agg #[(Fl r27), (Fl r29), (Fl r31)]), (.agg #[(Fl r33), (Fl r35), (Fl r37)]), (.agg #[(Fl r39), (Fl r41), (Fl r43)])]), (Pt c_b c_o), (.tuple #[(.agg #[(Fl r27), (Fl r29), (Fl r31)]), (.agg #[(Fl r33), (Fl r35), (Fl r37)]), (.agg #[(Fl r39), (Fl r41), (Fl r43)])]), (.agg #[(Fl r27), (Fl r29), (Fl r31)]), (.agg #[(Fl r33), (Fl r35), (Fl r37)]), (.agg #[(Fl r39), (Fl r41), (Fl r43)]), (Pt c_b c_o), (Pt c_b c_o), (Pt c_b (c_o + 7)), (Iv A_c.width), (Fl (FloatKind.f32.nearest A_c.width)), (Pt c_b c_o), (Pt c_b c_o), (Pt c_b (c_o + 8)), (Iv A_c.height), (Fl (FloatKind.f32.nearest A_c.height)), (Iv x), (Fl (FloatKind.f32.nearest x)), (Fl r91), (Fl (FloatKind.f32.nearest A_c.width)), (Fl r96), (Fl r101), (Fl r106), (Fl r106), (Pt c_b c_o), (Pt c_b c_o), (Pt c_b (c_o + 6)), (Fl r13), (Fl r112), (Fl (FloatKind.f32.nearest A_c.width)), (Fl (FloatKind.f32.nearest A_c.height)), (Fl r117), (Fl r122), (Iv y), (Fl (FloatKind.f32.nearest y)), (Fl r128), (Fl (FloatKind.f32.nearest A_c.height)), (Fl r133), (Fl r138), (Fl r143), (Fl r143), (Pt c_b c_o), (Pt c_b c_o), (Pt c_b (c_o + 6)), (Fl r13), (Fl r149), v159, v160, v161, v162, v163, v164, v165, Ud, Ud, Ud, Ud, Ud, Ud, Ud, Ud]) rfl (fun _ => rfl) (fun u hu hF => ?_) (fun v165 => ?_)
  · clear hF
    refine doesG_un rfl ?_
    refine (does_move (u := (Fl r149)) (ev rfl)).mono ?_; rintro _ _ ⟨rfl, rfl⟩
    exact ⟨rfl, Ext.refl _⟩
  refine RW_d (fun v166 => [(Pt c_b c_o), (Iv x), (Iv y), Ud, Ud, Ud, (Pt b16 0), (Pt b46 0), (Pt b55 0), (Pt b65 0), (Fl (FloatKind.f32.nearest A_c.width)), (Fl (FloatKind.f32.nearest A_c.height)), (Fl r122), (Fl r149), Ud, (.tuple #[(.agg #[(Fl r27), (Fl r29), (Fl r31)]), (.agg #[(Fl r33), (Fl r35), (Fl r37)]), (.agg #[(Fl r39), (Fl r41), (Fl r43)])]), (Pt c_b c_o), (.tuple #[(.agg #[(Fl r27), (Fl r29), (Fl r31)]), (.agg #[(Fl r33), (Fl r35), (Fl r37)]), (.agg #[(Fl r39), (Fl r41), (Fl r43)])]), (.agg #[(Fl r27), (Fl r29), (Fl r31)]), (.agg #[(Fl r33), (Fl r35), (Fl r37)]), (.agg #[(Fl r39), (Fl r41), (Fl r43)]), (Pt c_b c_o), (Pt c_b c_o), (Pt c_b (c_o + 7)), (Iv A_c.width), (Fl (FloatKind.f32.nearest A_c.width)), (Pt c_b c_o), (Pt c_b c_o), (Pt c_b (c_o + 8)), (Iv A_c.height), (Fl (FloatKind.f32.nearest A_c.height)), (Iv x), (Fl (FloatKind.f32.nearest x)), (Fl r91), (Fl (FloatKind.f32.nearest A_c.width)), (Fl r96), (Fl r101), (Fl r106), (Fl r106), (Pt c_b c_o), (Pt c_b c_o), (Pt c_b (c_o + 6)), (Fl r13), (Fl r112), (Fl (FloatKind.f32.nearest A_c.width)), (Fl (FloatKind.f32.nearest A_c.height)), (Fl r117), (Fl r122), (Iv y), (Fl (FloatKind.f32.nearest y)), (Fl r128), (Fl (FloatKind.f32.nearest A_c.height)), (Fl r133), (Fl r138), (Fl r143), (Fl r143), (Pt c_b c_o), (Pt c_b c_o), (Pt c_b (c_o + 6)), (Fl r13), (Fl r149), v159, v160, v161, v162, v163, v164, v165, v166, Ud, Ud, Ud, Ud, Ud, Ud, Ud]) rfl (fun _ => rfl) (fun u hu hF => ?_) (fun v166 => ?_)
  · have h66_ : v164 = (.agg #[(Fl r33), (Fl r35), (Fl r37)]) := hF.1
    have h67_ : v165 = (Fl r149) := hF.2.1
    clear hF
    refine doesG_un rfl ?_
    obtain rfl := h66_
    obtain rfl := h67_
    refine (does_call (args := #[(.agg #[(Fl r33), (Fl r35), (Fl r37)]), (Fl r149)]) cal86 (evs rfl) (c_spec_l01Scale [(Fl r33), (Fl r35), (Fl r37)] (upC A_c) r149 _ ⟨r33, r35, r37, rfl, h34, h36, h38⟩)).mono ?_; rintro v u' ⟨hx, ⟨csn1, hv, k0⟩⟩
    exact ⟨⟨csn1, hv, k0⟩, hx⟩
  refine RW_d (fun v167 => [(Pt c_b c_o), (Iv x), (Iv y), Ud, Ud, Ud, (Pt b16 0), (Pt b46 0), (Pt b55 0), (Pt b65 0), (Fl (FloatKind.f32.nearest A_c.width)), (Fl (FloatKind.f32.nearest A_c.height)), (Fl r122), (Fl r149), Ud, (.tuple #[(.agg #[(Fl r27), (Fl r29), (Fl r31)]), (.agg #[(Fl r33), (Fl r35), (Fl r37)]), (.agg #[(Fl r39), (Fl r41), (Fl r43)])]), (Pt c_b c_o), (.tuple #[(.agg #[(Fl r27), (Fl r29), (Fl r31)]), (.agg #[(Fl r33), (Fl r35), (Fl r37)]), (.agg #[(Fl r39), (Fl r41), (Fl r43)])]), (.agg #[(Fl r27), (Fl r29), (Fl r31)]), (.agg #[(Fl r33), (Fl r35), (Fl r37)]), (.agg #[(Fl r39), (Fl r41), (Fl r43)]), (Pt c_b c_o), (Pt c_b c_o), (Pt c_b (c_o + 7)), (Iv A_c.width), (Fl (FloatKind.f32.nearest A_c.width)), (Pt c_b c_o), (Pt c_b c_o), (Pt c_b (c_o + 8)), (Iv A_c.height), (Fl (FloatKind.f32.nearest A_c.height)), (Iv x), (Fl (FloatKind.f32.nearest x)), (Fl r91), (Fl (FloatKind.f32.nearest A_c.width)), (Fl r96), (Fl r101), (Fl r106), (Fl r106), (Pt c_b c_o), (Pt c_b c_o), (Pt c_b (c_o + 6)), (Fl r13), (Fl r112), (Fl (FloatKind.f32.nearest A_c.width)), (Fl (FloatKind.f32.nearest A_c.height)), (Fl r117), (Fl r122), (Iv y), (Fl (FloatKind.f32.nearest y)), (Fl r128), (Fl (FloatKind.f32.nearest A_c.height)), (Fl r133), (Fl r138), (Fl r143), (Fl r143), (Pt c_b c_o), (Pt c_b c_o), (Pt c_b (c_o + 6)), (Fl r13), (Fl r149), v159, v160, v161, v162, v163, v164, v165, v166, v167, Ud, Ud, Ud, Ud, Ud, Ud]) rfl (fun _ => rfl) (fun u hu hF => ?_) (fun v167 => ?_)
  · have h65_ : ∃ cs_1 : List Value, v163 = (.agg cs_1.toArray) ∧ RV3 w (vadd (fwdC A_c) (vscale (rgtC A_c) (cf .f32 r122))) cs_1 := hF.1
    have h68_ : ∃ cs_1 : List Value, v166 = (.agg cs_1.toArray) ∧ RV3 w (vscale (upC A_c) (cf .f32 r149)) cs_1 := hF.2.1
    clear hF
    refine doesG_un rfl ?_
    obtain ⟨_, rfl, ⟨r65_1, r65_3, r65_5, rfl, h65_2, h65_4, h65_6⟩⟩ := h65_
    obtain ⟨_, rfl, ⟨r68_1, r68_3, r68_5, rfl, h68_2, h68_4, h68_6⟩⟩ := h68_
    refine (does_call (args := #[(.agg #[(Fl r65_1), (Fl r65_3), (Fl r65_5)]), (.agg #[(Fl r68_1), (Fl r68_3), (Fl r68_5)])]) cal87 (evs rfl) (c_spec_l01Add [(Fl r65_1), (Fl r65_3), (Fl r65_5)] (vadd (fwdC A_c) (vscale (rgtC A_c) (cf .f32 r122))) [(Fl r68_1), (Fl r68_3), (Fl r68_5)] (vscale (upC A_c) (cf .f32 r149)) _ ⟨r65_1, r65_3, r65_5, rfl, (by assumption), (by assumption), (by assumption)⟩ ⟨r68_1, r68_3, r68_5, rfl, (by assumption), (by assumption), (by assumption)⟩)).mono ?_; rintro v u' ⟨hx, ⟨csn1, hv, k0⟩⟩
    exact ⟨⟨csn1, hv.trans (by simp only [h65_2, h65_4, h65_6, h68_2, h68_4, h68_6]), (by first | exact k0 | simpa only [h65_2, h65_4, h65_6, h68_2, h68_4, h68_6] using RV3.any (w := w) k0)⟩, hx⟩
  refine RW_d (fun v168 => [(Pt c_b c_o), (Iv x), (Iv y), Ud, Ud, Ud, (Pt b16 0), (Pt b46 0), (Pt b55 0), (Pt b65 0), (Fl (FloatKind.f32.nearest A_c.width)), (Fl (FloatKind.f32.nearest A_c.height)), (Fl r122), (Fl r149), v168, (.tuple #[(.agg #[(Fl r27), (Fl r29), (Fl r31)]), (.agg #[(Fl r33), (Fl r35), (Fl r37)]), (.agg #[(Fl r39), (Fl r41), (Fl r43)])]), (Pt c_b c_o), (.tuple #[(.agg #[(Fl r27), (Fl r29), (Fl r31)]), (.agg #[(Fl r33), (Fl r35), (Fl r37)]), (.agg #[(Fl r39), (Fl r41), (Fl r43)])]), (.agg #[(Fl r27), (Fl r29), (Fl r31)]), (.agg #[(Fl r33), (Fl r35), (Fl r37)]), (.agg #[(Fl r39), (Fl r41), (Fl r43)]), (Pt c_b c_o), (Pt c_b c_o), (Pt c_b (c_o + 7)), (Iv A_c.width), (Fl (FloatKind.f32.nearest A_c.width)), (Pt c_b c_o), (Pt c_b c_o), (Pt c_b (c_o + 8)), (Iv A_c.height), (Fl (FloatKind.f32.nearest A_c.height)), (Iv x), (Fl (FloatKind.f32.nearest x)), (Fl r91), (Fl (FloatKind.f32.nearest A_c.width)), (Fl r96), (Fl r101), (Fl r106), (Fl r106), (Pt c_b c_o), (Pt c_b c_o), (Pt c_b (c_o + 6)), (Fl r13), (Fl r112), (Fl (FloatKind.f32.nearest A_c.width)), (Fl (FloatKind.f32.nearest A_c.height)), (Fl r117), (Fl r122), (Iv y), (Fl (FloatKind.f32.nearest y)), (Fl r128), (Fl (FloatKind.f32.nearest A_c.height)), (Fl r133), (Fl r138), (Fl r143), (Fl r143), (Pt c_b c_o), (Pt c_b c_o), (Pt c_b (c_o + 6)), (Fl r13), (Fl r149), v159, v160, v161, v162, v163, v164, v165, v166, v167, Ud, Ud, Ud, Ud, Ud, Ud]) rfl (fun _ => rfl) (fun u hu hF => ?_) (fun v168 => ?_)
  · clear hF
    refine doesG_un rfl ?_
    refine (does_alloc z26).mono ?_; rintro _ _ ⟨b, rfl, hb, hB, hx⟩
    exact ⟨⟨b, rfl, Nat.le_trans (Nat.le_trans (Below.size E156) (Below.size hu)) hb, hB⟩, hx⟩
  refine RW_fin ?_; intro w169 E170 hP171
  obtain ⟨⟨⟨⟨⟨⟨⟨⟨⟨⟨-, -⟩, -⟩, -⟩, -⟩, -⟩, -⟩, -⟩, -⟩, q172⟩, q173⟩ := hP171
  have X174 := Ext.gr X158 E170
  have q172 : ∃ cs_1 : List Value, v167 = (.agg cs_1.toArray) ∧ RV3 w (vadd (vadd (fwdC A_c) (vscale (rgtC A_c) (cf .f32 r122))) (vscale (upC A_c) (cf .f32 r149))) cs_1 := q172
  obtain ⟨_, rfl, ⟨r175, r177, r179, rfl, h176, h178, h180⟩⟩ := q172
  have q173 : ∃ b : Nat, v168 = .pointer (some ⟨b, 0, none⟩) ∧ w152.heap.size ≤ b ∧ Blk w169 b [(Fl 0), (Fl 0), (Fl 0)] := q173
  obtain ⟨b181, rfl, hb182, hB183⟩ := q173
  have n184 : c_b < b181 := Nat.lt_of_lt_of_le (cell_lt (Cells.at (hc_c.ext X153) 0 rfl)) hb182
  have n185 : b16 < b181 := Nat.lt_of_lt_of_le (Blk.lt (((((((((((((((((((hB18.ext E25).ext E49).ext E58).ext E68).wr W76 (Nat.ne_of_lt n52)).wr W80 (Nat.ne_of_lt n61)).wr W84 (Nat.ne_of_lt n71)).ext E93).ext E98).ext E103).ext E108).ext E114).ext E119).ext E124).ext E130).ext E135).ext E140).ext E145).ext E151)) hb182
  have n186 : b46 < b181 := Nat.lt_of_lt_of_le (Blk.lt ((((((((((((((hB77.wr W80 (Nat.ne_of_lt n62)).wr W84 (Nat.ne_of_lt n72)).ext E93).ext E98).ext E103).ext E108).ext E114).ext E119).ext E124).ext E130).ext E135).ext E140).ext E145).ext E151)) hb182
  have n187 : b55 < b181 := Nat.lt_of_lt_of_le (Blk.lt (((((((((((((hB81.wr W84 (Nat.ne_of_lt n73)).ext E93).ext E98).ext E103).ext E108).ext E114).ext E119).ext E124).ext E130).ext E135).ext E140).ext E145).ext E151)) hb182
  have n188 : b65 < b181 := Nat.lt_of_lt_of_le (Blk.lt ((((((((((((hB85.ext E93).ext E98).ext E103).ext E108).ext E114).ext E119).ext E124).ext E130).ext E135).ext E140).ext E145).ext E151)) hb182
  have g189 : w.heap.size ≤ b181 := Nat.le_trans (Below.size X153) hb182
  show wpList _ _ _ _ (fr [(Pt c_b c_o), (Iv x), (Iv y), Ud, Ud, Ud, (Pt b16 0), (Pt b46 0), (Pt b55 0), (Pt b65 0), (Fl (FloatKind.f32.nearest A_c.width)), (Fl (FloatKind.f32.nearest A_c.height)), (Fl r122), (Fl r149), (Pt b181 0), (.tuple #[(.agg #[(Fl r27), (Fl r29), (Fl r31)]), (.agg #[(Fl r33), (Fl r35), (Fl r37)]), (.agg #[(Fl r39), (Fl r41), (Fl r43)])]), (Pt c_b c_o), (.tuple #[(.agg #[(Fl r27), (Fl r29), (Fl r31)]), (.agg #[(Fl r33), (Fl r35), (Fl r37)]), (.agg #[(Fl r39), (Fl r41), (Fl r43)])]), (.agg #[(Fl r27), (Fl r29), (Fl r31)]), (.agg #[(Fl r33), (Fl r35), (Fl r37)]), (.agg #[(Fl r39), (Fl r41), (Fl r43)]), (Pt c_b c_o), (Pt c_b c_o), (Pt c_b (c_o + 7)), (Iv A_c.width), (Fl (FloatKind.f32.nearest A_c.width)), (Pt c_b c_o), (Pt c_b c_o), (Pt c_b (c_o + 8)), (Iv A_c.height), (Fl (FloatKind.f32.nearest A_c.height)), (Iv x), (Fl (FloatKind.f32.nearest x)), (Fl r91), (Fl (FloatKind.f32.nearest A_c.width)), (Fl r96), (Fl r101), (Fl r106), (Fl r106), (Pt c_b c_o), (Pt c_b c_o), (Pt c_b (c_o + 6)), (Fl r13), (Fl r112), (Fl (FloatKind.f32.nearest A_c.width)), (Fl (FloatKind.f32.nearest A_c.height)), (Fl r117), (Fl r122), (Iv y), (Fl (FloatKind.f32.nearest y)), (Fl r128), (Fl (FloatKind.f32.nearest A_c.height)), (Fl r133), (Fl r138), (Fl r143), (Fl r143), (Pt c_b c_o), (Pt c_b c_o), (Pt c_b (c_o + 6)), (Fl r13), (Fl r149), v159, v160, v161, v162, v163, v164, v165, v166, (.agg #[(Fl r175), (Fl r177), (Fl r179)]), Ud, Ud, Ud, Ud, Ud, Ud]) _
  refine seqn rfl rfl (does_store (n := 3) (cs := [(Fl 0), (Fl 0), (Fl 0)]) (u := (.agg #[(Fl r175), (Fl r177), (Fl r179)])) (ev rfl) (ev rfl) Try.sizeOf26 rfl hB183 (Nat.le_of_ble_eq_true rfl) rfl) ?_; rintro _ w192 ⟨rfl, W190, hB191⟩
  change Blk _ _ [(Fl r175), (Fl r177), (Fl r179)] at hB191
  have X193 := Below.wr X174 W190 g189
  refine wpList_nil (hK154 _ _ ?_)
  refine wp_seq_k fun K194 hK194 => ?_
  refine region_draw (
    [Fact.pure [] (fun v => v = (Pt c_b c_o)),
    Fact.pure [70] (fun v => v = (Pt c_b c_o)),
    Fact.pure [71] (fun v => v = (Pt c_b c_o)),
    Fact.pure [72] (fun v => v = (.agg #[(Fl r1), (Fl r3), (Fl r5)])),
    Fact.pure [] (fun v => v = (.agg #[(Fl r175), (Fl r177), (Fl r179)])),
    Fact.pure [73, 74] (fun v => v = (.agg #[(Fl r1), (Fl r3), (Fl r5), (Fl r175), (Fl r177), (Fl r179)]))]) mixed (by kernel_rfl) (by intro _ _ d _ _ h; cases d <;> exact h) ?_
  obtain ⟨w195, hw197⟩ : ∃ w', w' = World.drew w192 := ⟨_, rfl⟩; rw [← hw197]; have E196 : Ext w192 w195 := by rw [hw197]; exact Ext.draw _
  clear hw197
  have X198 := Ext.gr X193 E196
  refine RW_d (fun v199 => [(Pt c_b c_o), (Iv x), (Iv y), Ud, Ud, Ud, (Pt b16 0), (Pt b46 0), (Pt b55 0), (Pt b65 0), (Fl (FloatKind.f32.nearest A_c.width)), (Fl (FloatKind.f32.nearest A_c.height)), (Fl r122), (Fl r149), (Pt b181 0), (.tuple #[(.agg #[(Fl r27), (Fl r29), (Fl r31)]), (.agg #[(Fl r33), (Fl r35), (Fl r37)]), (.agg #[(Fl r39), (Fl r41), (Fl r43)])]), (Pt c_b c_o), (.tuple #[(.agg #[(Fl r27), (Fl r29), (Fl r31)]), (.agg #[(Fl r33), (Fl r35), (Fl r37)]), (.agg #[(Fl r39), (Fl r41), (Fl r43)])]), (.agg #[(Fl r27), (Fl r29), (Fl r31)]), (.agg #[(Fl r33), (Fl r35), (Fl r37)]), (.agg #[(Fl r39), (Fl r41), (Fl r43)]), (Pt c_b c_o), (Pt c_b c_o), (Pt c_b (c_o + 7)), (Iv A_c.width), (Fl (FloatKind.f32.nearest A_c.width)), (Pt c_b c_o), (Pt c_b c_o), (Pt c_b (c_o + 8)), (Iv A_c.height), (Fl (FloatKind.f32.nearest A_c.height)), (Iv x), (Fl (FloatKind.f32.nearest x)), (Fl r91), (Fl (FloatKind.f32.nearest A_c.width)), (Fl r96), (Fl r101), (Fl r106), (Fl r106), (Pt c_b c_o), (Pt c_b c_o), (Pt c_b (c_o + 6)), (Fl r13), (Fl r112), (Fl (FloatKind.f32.nearest A_c.width)), (Fl (FloatKind.f32.nearest A_c.height)), (Fl r117), (Fl r122), (Iv y), (Fl (FloatKind.f32.nearest y)), (Fl r128), (Fl (FloatKind.f32.nearest A_c.height)), (Fl r133), (Fl r138), (Fl r143), (Fl r143), (Pt c_b c_o), (Pt c_b c_o), (Pt c_b (c_o + 6)), (Fl r13), (Fl r149), v159, v160, v161, v162, v163, v164, v165, v166, (.agg #[(Fl r175), (Fl r177), (Fl r179)]), v199, Ud, Ud, Ud, Ud, Ud]) rfl (fun _ => rfl) (fun u hu hF => ?_) (fun v199 => ?_)
  · clear hF
    refine doesG_un rfl ?_
    refine (does_move (u := (Pt c_b c_o)) (ev rfl)).mono ?_; rintro _ _ ⟨rfl, rfl⟩
    exact ⟨rfl, Ext.refl _⟩
  refine RW_d (fun v200 => [(Pt c_b c_o), (Iv x), (Iv y), Ud, Ud, Ud, (Pt b16 0), (Pt b46 0), (Pt b55 0), (Pt b65 0), (Fl (FloatKind.f32.nearest A_c.width)), (Fl (FloatKind.f32.nearest A_c.height)), (Fl r122), (Fl r149), (Pt b181 0), (.tuple #[(.agg #[(Fl r27), (Fl r29), (Fl r31)]), (.agg #[(Fl r33), (Fl r35), (Fl r37)]), (.agg #[(Fl r39), (Fl r41), (Fl r43)])]), (Pt c_b c_o), (.tuple #[(.agg #[(Fl r27), (Fl r29), (Fl r31)]), (.agg #[(Fl r33), (Fl r35), (Fl r37)]), (.agg #[(Fl r39), (Fl r41), (Fl r43)])]), (.agg #[(Fl r27), (Fl r29), (Fl r31)]), (.agg #[(Fl r33), (Fl r35), (Fl r37)]), (.agg #[(Fl r39), (Fl r41), (Fl r43)]), (Pt c_b c_o), (Pt c_b c_o), (Pt c_b (c_o + 7)), (Iv A_c.width), (Fl (FloatKind.f32.nearest A_c.width)), (Pt c_b c_o), (Pt c_b c_o), (Pt c_b (c_o + 8)), (Iv A_c.height), (Fl (FloatKind.f32.nearest A_c.height)), (Iv x), (Fl (FloatKind.f32.nearest x)), (Fl r91), (Fl (FloatKind.f32.nearest A_c.width)), (Fl r96), (Fl r101), (Fl r106), (Fl r106), (Pt c_b c_o), (Pt c_b c_o), (Pt c_b (c_o + 6)), (Fl r13), (Fl r112), (Fl (FloatKind.f32.nearest A_c.width)), (Fl (FloatKind.f32.nearest A_c.height)), (Fl r117), (Fl r122), (Iv y), (Fl (FloatKind.f32.nearest y)), (Fl r128), (Fl (FloatKind.f32.nearest A_c.height)), (Fl r133), (Fl r138), (Fl r143), (Fl r143), (Pt c_b c_o), (Pt c_b c_o), (Pt c_b (c_o + 6)), (Fl r13), (Fl r149), v159, v160, v161, v162, v163, v164, v165, v166, (.agg #[(Fl r175), (Fl r177), (Fl r179)]), v199, v200, Ud, Ud, Ud, Ud]) rfl (fun _ => rfl) (fun u hu hF => ?_) (fun v200 => ?_)
  · have h70_ : v199 = (Pt c_b c_o) := hF.1
    clear hF
    refine doesG_un rfl ?_
    obtain rfl := h70_
    refine (does_nilCheck (ev rfl)).mono ?_; rintro _ _ ⟨rfl, rfl⟩
    exact ⟨rfl, Ext.refl _⟩
  refine RW_d (fun v201 => [(Pt c_b c_o), (Iv x), (Iv y), Ud, Ud, Ud, (Pt b16 0), (Pt b46 0), (Pt b55 0), (Pt b65 0), (Fl (FloatKind.f32.nearest A_c.width)), (Fl (FloatKind.f32.nearest A_c.height)), (Fl r122), (Fl r149), (Pt b181 0), (.tuple #[(.agg #[(Fl r27), (Fl r29), (Fl r31)]), (.agg #[(Fl r33), (Fl r35), (Fl r37)]), (.agg #[(Fl r39), (Fl r41), (Fl r43)])]), (Pt c_b c_o), (.tuple #[(.agg #[(Fl r27), (Fl r29), (Fl r31)]), (.agg #[(Fl r33), (Fl r35), (Fl r37)]), (.agg #[(Fl r39), (Fl r41), (Fl r43)])]), (.agg #[(Fl r27), (Fl r29), (Fl r31)]), (.agg #[(Fl r33), (Fl r35), (Fl r37)]), (.agg #[(Fl r39), (Fl r41), (Fl r43)]), (Pt c_b c_o), (Pt c_b c_o), (Pt c_b (c_o + 7)), (Iv A_c.width), (Fl (FloatKind.f32.nearest A_c.width)), (Pt c_b c_o), (Pt c_b c_o), (Pt c_b (c_o + 8)), (Iv A_c.height), (Fl (FloatKind.f32.nearest A_c.height)), (Iv x), (Fl (FloatKind.f32.nearest x)), (Fl r91), (Fl (FloatKind.f32.nearest A_c.width)), (Fl r96), (Fl r101), (Fl r106), (Fl r106), (Pt c_b c_o), (Pt c_b c_o), (Pt c_b (c_o + 6)), (Fl r13), (Fl r112), (Fl (FloatKind.f32.nearest A_c.width)), (Fl (FloatKind.f32.nearest A_c.height)), (Fl r117), (Fl r122), (Iv y), (Fl (FloatKind.f32.nearest y)), (Fl r128), (Fl (FloatKind.f32.nearest A_c.height)), (Fl r133), (Fl r138), (Fl r143), (Fl r143), (Pt c_b c_o), (Pt c_b c_o), (Pt c_b (c_o + 6)), (Fl r13), (Fl r149), v159, v160, v161, v162, v163, v164, v165, v166, (.agg #[(Fl r175), (Fl r177), (Fl r179)]), v199, v200, v201, Ud, Ud, Ud]) rfl (fun _ => rfl) (fun u hu hF => ?_) (fun v201 => ?_)
  · have h71_ : v200 = (Pt c_b c_o) := hF.1
    clear hF
    refine doesG_un rfl ?_
    obtain rfl := h71_
    refine (does_fieldAddr (ev rfl) fa48_0).mono ?_; rintro _ _ ⟨rfl, rfl⟩
    exact ⟨rfl, Ext.refl _⟩
  refine RW_d (fun v202 => [(Pt c_b c_o), (Iv x), (Iv y), Ud, Ud, Ud, (Pt b16 0), (Pt b46 0), (Pt b55 0), (Pt b65 0), (Fl (FloatKind.f32.nearest A_c.width)), (Fl (FloatKind.f32.nearest A_c.height)), (Fl r122), (Fl r149), (Pt b181 0), (.tuple #[(.agg #[(Fl r27), (Fl r29), (Fl r31)]), (.agg #[(Fl r33), (Fl r35), (Fl r37)]), (.agg #[(Fl r39), (Fl r41), (Fl r43)])]), (Pt c_b c_o), (.tuple #[(.agg #[(Fl r27), (Fl r29), (Fl r31)]), (.agg #[(Fl r33), (Fl r35), (Fl r37)]), (.agg #[(Fl r39), (Fl r41), (Fl r43)])]), (.agg #[(Fl r27), (Fl r29), (Fl r31)]), (.agg #[(Fl r33), (Fl r35), (Fl r37)]), (.agg #[(Fl r39), (Fl r41), (Fl r43)]), (Pt c_b c_o), (Pt c_b c_o), (Pt c_b (c_o + 7)), (Iv A_c.width), (Fl (FloatKind.f32.nearest A_c.width)), (Pt c_b c_o), (Pt c_b c_o), (Pt c_b (c_o + 8)), (Iv A_c.height), (Fl (FloatKind.f32.nearest A_c.height)), (Iv x), (Fl (FloatKind.f32.nearest x)), (Fl r91), (Fl (FloatKind.f32.nearest A_c.width)), (Fl r96), (Fl r101), (Fl r106), (Fl r106), (Pt c_b c_o), (Pt c_b c_o), (Pt c_b (c_o + 6)), (Fl r13), (Fl r112), (Fl (FloatKind.f32.nearest A_c.width)), (Fl (FloatKind.f32.nearest A_c.height)), (Fl r117), (Fl r122), (Iv y), (Fl (FloatKind.f32.nearest y)), (Fl r128), (Fl (FloatKind.f32.nearest A_c.height)), (Fl r133), (Fl r138), (Fl r143), (Fl r143), (Pt c_b c_o), (Pt c_b c_o), (Pt c_b (c_o + 6)), (Fl r13), (Fl r149), v159, v160, v161, v162, v163, v164, v165, v166, (.agg #[(Fl r175), (Fl r177), (Fl r179)]), v199, v200, v201, v202, Ud, Ud]) rfl (fun _ => rfl) (fun u hu hF => ?_) (fun v202 => ?_)
  · have h72_ : v201 = (Pt c_b c_o) := hF.1
    clear hF
    refine doesG_un rfl ?_
    obtain rfl := h72_
    refine (does_loadAgg (cs := [(Fl r1), (Fl r3), (Fl r5)]) (ev rfl) Try.isAgg26 Try.sizeOf26 (Cells.sub ((hc_c.ext (Ext.gr X193 E196)).ext hu) 0 3) rfl).mono ?_; rintro _ _ ⟨rfl, rfl⟩
    exact ⟨rfl, Ext.refl _⟩
  refine RW_d (fun v203 => [(Pt c_b c_o), (Iv x), (Iv y), Ud, Ud, Ud, (Pt b16 0), (Pt b46 0), (Pt b55 0), (Pt b65 0), (Fl (FloatKind.f32.nearest A_c.width)), (Fl (FloatKind.f32.nearest A_c.height)), (Fl r122), (Fl r149), (Pt b181 0), (.tuple #[(.agg #[(Fl r27), (Fl r29), (Fl r31)]), (.agg #[(Fl r33), (Fl r35), (Fl r37)]), (.agg #[(Fl r39), (Fl r41), (Fl r43)])]), (Pt c_b c_o), (.tuple #[(.agg #[(Fl r27), (Fl r29), (Fl r31)]), (.agg #[(Fl r33), (Fl r35), (Fl r37)]), (.agg #[(Fl r39), (Fl r41), (Fl r43)])]), (.agg #[(Fl r27), (Fl r29), (Fl r31)]), (.agg #[(Fl r33), (Fl r35), (Fl r37)]), (.agg #[(Fl r39), (Fl r41), (Fl r43)]), (Pt c_b c_o), (Pt c_b c_o), (Pt c_b (c_o + 7)), (Iv A_c.width), (Fl (FloatKind.f32.nearest A_c.width)), (Pt c_b c_o), (Pt c_b c_o), (Pt c_b (c_o + 8)), (Iv A_c.height), (Fl (FloatKind.f32.nearest A_c.height)), (Iv x), (Fl (FloatKind.f32.nearest x)), (Fl r91), (Fl (FloatKind.f32.nearest A_c.width)), (Fl r96), (Fl r101), (Fl r106), (Fl r106), (Pt c_b c_o), (Pt c_b c_o), (Pt c_b (c_o + 6)), (Fl r13), (Fl r112), (Fl (FloatKind.f32.nearest A_c.width)), (Fl (FloatKind.f32.nearest A_c.height)), (Fl r117), (Fl r122), (Iv y), (Fl (FloatKind.f32.nearest y)), (Fl r128), (Fl (FloatKind.f32.nearest A_c.height)), (Fl r133), (Fl r138), (Fl r143), (Fl r143), (Pt c_b c_o), (Pt c_b c_o), (Pt c_b (c_o + 6)), (Fl r13), (Fl r149), v159, v160, v161, v162, v163, v164, v165, v166, (.agg #[(Fl r175), (Fl r177), (Fl r179)]), v199, v200, v201, v202, v203, Ud]) rfl (fun _ => rfl) (fun u hu hF => ?_) (fun v203 => ?_)
  · clear hF
    refine doesG_un rfl ?_
    refine (does_loadAgg (cs := [(Fl r175), (Fl r177), (Fl r179)]) (ev rfl) Try.isAgg26 Try.sizeOf26 (Blk.cells ((hB191.ext E196).ext hu)) rfl).mono ?_; rintro _ _ ⟨rfl, rfl⟩
    exact ⟨rfl, Ext.refl _⟩
  refine RW_d (fun v204 => [(Pt c_b c_o), (Iv x), (Iv y), Ud, Ud, Ud, (Pt b16 0), (Pt b46 0), (Pt b55 0), (Pt b65 0), (Fl (FloatKind.f32.nearest A_c.width)), (Fl (FloatKind.f32.nearest A_c.height)), (Fl r122), (Fl r149), (Pt b181 0), (.tuple #[(.agg #[(Fl r27), (Fl r29), (Fl r31)]), (.agg #[(Fl r33), (Fl r35), (Fl r37)]), (.agg #[(Fl r39), (Fl r41), (Fl r43)])]), (Pt c_b c_o), (.tuple #[(.agg #[(Fl r27), (Fl r29), (Fl r31)]), (.agg #[(Fl r33), (Fl r35), (Fl r37)]), (.agg #[(Fl r39), (Fl r41), (Fl r43)])]), (.agg #[(Fl r27), (Fl r29), (Fl r31)]), (.agg #[(Fl r33), (Fl r35), (Fl r37)]), (.agg #[(Fl r39), (Fl r41), (Fl r43)]), (Pt c_b c_o), (Pt c_b c_o), (Pt c_b (c_o + 7)), (Iv A_c.width), (Fl (FloatKind.f32.nearest A_c.width)), (Pt c_b c_o), (Pt c_b c_o), (Pt c_b (c_o + 8)), (Iv A_c.height), (Fl (FloatKind.f32.nearest A_c.height)), (Iv x), (Fl (FloatKind.f32.nearest x)), (Fl r91), (Fl (FloatKind.f32.nearest A_c.width)), (Fl r96), (Fl r101), (Fl r106), (Fl r106), (Pt c_b c_o), (Pt c_b c_o), (Pt c_b (c_o + 6)), (Fl r13), (Fl r112), (Fl (FloatKind.f32.nearest A_c.width)), (Fl (FloatKind.f32.nearest A_c.height)), (Fl r117), (Fl r122), (Iv y), (Fl (FloatKind.f32.nearest y)), (Fl r128), (Fl (FloatKind.f32.nearest A_c.height)), (Fl r133), (Fl r138), (Fl r143), (Fl r143), (Pt c_b c_o), (Pt c_b c_o), (Pt c_b (c_o + 6)), (Fl r13), (Fl r149), v159, v160, v161, v162, v163, v164, v165, v166, (.agg #[(Fl r175), (Fl r177), (Fl r179)]), v199, v200, v201, v202, v203, v204]) rfl (fun _ => rfl) (fun u hu hF => ?_) (fun v204 => ?_)
  · have h73_ : v202 = (.agg #[(Fl r1), (Fl r3), (Fl r5)]) := hF.1
    have h74_ : v203 = (.agg #[(Fl r175), (Fl r177), (Fl r179)]) := hF.2.1
    clear hF
    refine doesG_un rfl ?_
    obtain rfl := h73_
    obtain rfl := h74_
    refine (does_build (parts' := [(0, (.agg #[(Fl r1), (Fl r3), (Fl r5)])), (1, (.agg #[(Fl r175), (Fl r177), (Fl r179)]))]) (cells := #[(Fl r1), (Fl r3), (Fl r5), (Fl r175), (Fl r177), (Fl r179)]) (evp rfl) (by kernel_rfl)).mono ?_; rintro _ _ ⟨rfl, rfl⟩
    exact ⟨rfl, Ext.refl _⟩
  refine RW_fin ?_; intro w205 E206 hP207
  obtain ⟨⟨⟨⟨⟨⟨-, -⟩, -⟩, -⟩, -⟩, -⟩, q208⟩ := hP207
  have X209 := Ext.gr X198 E206
  have q208 : v204 = (.agg #[(Fl r1), (Fl r3), (Fl r5), (Fl r175), (Fl r177), (Fl r179)]) := q208
  obtain rfl := q208
  show wpList _ _ _ _ (fr [(Pt c_b c_o), (Iv x), (Iv y), Ud, Ud, Ud, (Pt b16 0), (Pt b46 0), (Pt b55 0), (Pt b65 0), (Fl (FloatKind.f32.nearest A_c.width)), (Fl (FloatKind.f32.nearest A_c.height)), (Fl r122), (Fl r149), (Pt b181 0), (.tuple #[(.agg #[(Fl r27), (Fl r29), (Fl r31)]), (.agg #[(Fl r33), (Fl r35), (Fl r37)]), (.agg #[(Fl r39), (Fl r41), (Fl r43)])]), (Pt c_b c_o), (.tuple #[(.agg #[(Fl r27), (Fl r29), (Fl r31)]), (.agg #[(Fl r33), (Fl r35), (Fl r37)]), (.agg #[(Fl r39), (Fl r41), (Fl r43)])]), (.agg #[(Fl r27), (Fl r29), (Fl r31)]), (.agg #[(Fl r33), (Fl r35), (Fl r37)]), (.agg #[(Fl r39), (Fl r41), (Fl r43)]), (Pt c_b c_o), (Pt c_b c_o), (Pt c_b (c_o + 7)), (Iv A_c.width), (Fl (FloatKind.f32.nearest A_c.width)), (Pt c_b c_o), (Pt c_b c_o), (Pt c_b (c_o + 8)), (Iv A_c.height), (Fl (FloatKind.f32.nearest A_c.height)), (Iv x), (Fl (FloatKind.f32.nearest x)), (Fl r91), (Fl (FloatKind.f32.nearest A_c.width)), (Fl r96), (Fl r101), (Fl r106), (Fl r106), (Pt c_b c_o), (Pt c_b c_o), (Pt c_b (c_o + 6)), (Fl r13), (Fl r112), (Fl (FloatKind.f32.nearest A_c.width)), (Fl (FloatKind.f32.nearest A_c.height)), (Fl r117), (Fl r122), (Iv y), (Fl (FloatKind.f32.nearest y)), (Fl r128), (Fl (FloatKind.f32.nearest A_c.height)), (Fl r133), (Fl r138), (Fl r143), (Fl r143), (Pt c_b c_o), (Pt c_b c_o), (Pt c_b (c_o + 6)), (Fl r13), (Fl r149), v159, v160, v161, v162, v163, v164, v165, v166, (.agg #[(Fl r175), (Fl r177), (Fl r179)]), v199, v200, v201, v202, v203, (.agg #[(Fl r1), (Fl r3), (Fl r5), (Fl r175), (Fl r177), (Fl r179)])]) _
  refine seqn rfl rfl (does_store (n := 6) (cs := [(Fl 0), (Fl 0), (Fl 0), (Fl 0), (Fl 0), (Fl 0)]) (u := (.agg #[(Fl r1), (Fl r3), (Fl r5), (Fl r175), (Fl r177), (Fl r179)])) (ev rfl) (ev rfl) Try.sizeOf64 rfl ((((((((((((((((((((((((hB18.ext E25).ext E49).ext E58).ext E68).wr W76 (Nat.ne_of_lt n52)).wr W80 (Nat.ne_of_lt n61)).wr W84 (Nat.ne_of_lt n71)).ext E93).ext E98).ext E103).ext E108).ext E114).ext E119).ext E124).ext E130).ext E135).ext E140).ext E145).ext E151).ext E156).ext E170).wr W190 (Nat.ne_of_lt n185)).ext E196).ext E206) (Nat.le_of_ble_eq_true rfl) rfl) ?_; rintro _ w212 ⟨rfl, W210, hB211⟩
  change Blk _ _ [(Fl r1), (Fl r3), (Fl r5), (Fl r175), (Fl r177), (Fl r179)] at hB211
  have X213 := Below.wr X209 W210 g22
  refine wpList_nil (hK194 _ _ ?_)
  refine wp_ret ?_
  refine ret_val (v := (.agg #[(Fl r1), (Fl r3), (Fl r5), (Fl r175), (Fl r177), (Fl r179)])) (res_C rfl (slot rfl) (run_loadAgg (cs := [(Fl r1), (Fl r3), (Fl r5), (Fl r175), (Fl r177), (Fl r179)]) Try.isAgg64 Try.sizeOf64 (Blk.cells hB211) rfl)) X213 ?_
  have x214 : cf .f32 r1 = (rayC A_c x y).frm.x := by first | with_reducible rfl | (simp only [rayC, uC, vC, shareF, nrF, h2, h4, h6, h8, h10, h12, h14, h28, h30, h32, h34, h36, h38, h40, h42, h44, h92, h97, h102, h107, h113, h118, h123, h129, h134, h139, h144, h150, h176, h178, h180]; done) | (simp [rayC, uC, vC, shareF, nrF, h2, h4, h6, h8, h10, h12, h14, h28, h30, h32, h34, h36, h38, h40, h42, h44, h92, h97, h102, h107, h113, h118, h123, h129, h134, h139, h144, h150, h176, h178, h180]; done) | rfl
  have x215 : cf .f32 r3 = (rayC A_c x y).frm.y := by first | with_reducible rfl | (simp only [rayC, uC, vC, shareF, nrF, h2, h4, h6, h8, h10, h12, h14, h28, h30, h32, h34, h36, h38, h40, h42, h44, h92, h97, h102, h107, h113, h118, h123, h129, h134, h139, h144, h150, h176, h178, h180]; done) | (simp [rayC, uC, vC, shareF, nrF, h2, h4, h6, h8, h10, h12, h14, h28, h30, h32, h34, h36, h38, h40, h42, h44, h92, h97, h102, h107, h113, h118, h123, h129, h134, h139, h144, h150, h176, h178, h180]; done) | rfl
  have x216 : cf .f32 r5 = (rayC A_c x y).frm.z := by first | with_reducible rfl | (simp only [rayC, uC, vC, shareF, nrF, h2, h4, h6, h8, h10, h12, h14, h28, h30, h32, h34, h36, h38, h40, h42, h44, h92, h97, h102, h107, h113, h118, h123, h129, h134, h139, h144, h150, h176, h178, h180]; done) | (simp [rayC, uC, vC, shareF, nrF, h2, h4, h6, h8, h10, h12, h14, h28, h30, h32, h34, h36, h38, h40, h42, h44, h92, h97, h102, h107, h113, h118, h123, h129, h134, h139, h144, h150, h176, h178, h180]; done) | rfl
  have x217 : cf .f32 r175 = (rayC A_c x y).way.x := by first | with_reducible rfl | (simp only [rayC, uC, vC, shareF, nrF, h2, h4, h6, h8, h10, h12, h14, h28, h30, h32, h34, h36, h38, h40, h42, h44, h92, h97, h102, h107, h113, h118, h123, h129, h134, h139, h144, h150, h176, h178, h180]; done) | (simp [rayC, uC, vC, shareF, nrF, h2, h4, h6, h8, h10, h12, h14, h28, h30, h32, h34, h36, h38, h40, h42, h44, h92, h97, h102, h107, h113, h118, h123, h129, h134, h139, h144, h150, h176, h178, h180]; done) | rfl
  have x218 : cf .f32 r177 = (rayC A_c x y).way.y := by first | with_reducible rfl | (simp only [rayC, uC, vC, shareF, nrF, h2, h4, h6, h8, h10, h12, h14, h28, h30, h32, h34, h36, h38, h40, h42, h44, h92, h97, h102, h107, h113, h118, h123, h129, h134, h139, h144, h150, h176, h178, h180]; done) | (simp [rayC, uC, vC, shareF, nrF, h2, h4, h6, h8, h10, h12, h14, h28, h30, h32, h34, h36, h38, h40, h42, h44, h92, h97, h102, h107, h113, h118, h123, h129, h134, h139, h144, h150, h176, h178, h180]; done) | rfl
  have x219 : cf .f32 r179 = (rayC A_c x y).way.z := by first | with_reducible rfl | (simp only [rayC, uC, vC, shareF, nrF, h2, h4, h6, h8, h10, h12, h14, h28, h30, h32, h34, h36, h38, h40, h42, h44, h92, h97, h102, h107, h113, h118, h123, h129, h134, h139, h144, h150, h176, h178, h180]; done) | (simp [rayC, uC, vC, shareF, nrF, h2, h4, h6, h8, h10, h12, h14, h28, h30, h32, h34, h36, h38, h40, h42, h44, h92, h97, h102, h107, h113, h118, h123, h129, h134, h139, h144, h150, h176, h178, h180]; done) | rfl
  exact ⟨[(Fl r1), (Fl r3), (Fl r5), (Fl r175), (Fl r177), (Fl r179)], rfl, ⟨r1, r3, r5, r175, r177, r179, rfl, x214, x215, x216, x217, x218, x219⟩⟩

/- spec.RayThrough -/
theorem c_spec_RayThrough (c : List Value) (A_c : CamT) (x : Int) (y : Int) (w : World) (hv_c : RCamT w A_c c) : Gives Try.prog 34 #[(.agg c.toArray), (Iv x), (Iv y)] w (fun v w' => ∃ cs_1 : List Value, v = (.tuple #[(.agg cs_1.toArray), (Bo (camPx A_c x y))]) ∧ RRayT w (gvA zRay (camPx A_c x y) (rayC A_c x y)) cs_1) := by
  obtain ⟨r1, r3, r5, r7, r9, r11, r13, rfl, h2, h4, h6, h8, h10, h12, h14⟩ := hv_c
  refine enter [(.agg #[(Fl r1), (Fl r3), (Fl r5), (Fl r7), (Fl r9), (Fl r11), (Fl r13), (Iv A_c.width), (Iv A_c.height)]), (Iv x), (Iv y), Ud, Ud, Ud, Ud, Ud, Ud, Ud, Ud, Ud, Ud, Ud, Ud, Ud, Ud, Ud, Ud, Ud] Try.func34 rfl Try.ntmps34 rfl ?_
  refine wp_seq_k fun K15 hK15 => ?_
  refine wp_region_lit ?_
  refine seqd rfl rfl (does_box (u := (.agg #[(Fl r1), (Fl r3), (Fl r5), (Fl r7), (Fl r9), (Fl r11), (Fl r13), (Iv A_c.width), (Iv A_c.height)])) (ev rfl)) ?_; rintro _ w20 ⟨b16, rfl, hb17, hB18, E19⟩
  have g21 : w.heap.size ≤ b16 := Nat.le_trans (Below.size (Ext.refl w)) hb17
  change Blk _ _ [(Fl r1), (Fl r3), (Fl r5), (Fl r7), (Fl r9), (Fl r11), (Fl r13), (Iv A_c.width), (Iv A_c.height)] at hB18
  have X22 := Ext.gr (Ext.refl w) E19
  show wpList _ _ _ _ (fr [(.agg #[(Fl r1), (Fl r3), (Fl r5), (Fl r7), (Fl r9), (Fl r11), (Fl r13), (Iv A_c.width), (Iv A_c.height)]), (Iv x), (Iv y), (Pt b16 0), Ud, Ud, Ud, Ud, Ud, Ud, Ud, Ud, Ud, Ud, Ud, Ud, Ud, Ud, Ud, Ud]) _
  refine seqd rfl rfl (does_alloc z64) ?_; rintro _ w27 ⟨b23, rfl, hb24, hB25, E26⟩
  have n28 : b16 < b23 := Nat.lt_of_lt_of_le (Blk.lt hB18) hb24
  have g29 : w.heap.size ≤ b23 := Nat.le_trans (Below.size X22) hb24
  change Blk _ _ [(Fl 0), (Fl 0), (Fl 0), (Fl 0), (Fl 0), (Fl 0)] at hB25
  have X30 := Ext.gr X22 E26
  show wpList _ _ _ _ (fr [(.agg #[(Fl r1), (Fl r3), (Fl r5), (Fl r7), (Fl r9), (Fl r11), (Fl r13), (Iv A_c.width), (Iv A_c.height)]), (Iv x), (Iv y), (Pt b16 0), Ud, Ud, (Pt b23 0), Ud, Ud, Ud, Ud, Ud, Ud, Ud, Ud, Ud, Ud, Ud, Ud, Ud]) _
  refine q_is (l' := [(.agg #[(Fl r1), (Fl r3), (Fl r5), (Fl r7), (Fl r9), (Fl r11), (Fl r13), (Iv A_c.width), (Iv A_c.height)]), (Iv x), (Iv y), (Pt b16 0), Ud, Ud, (Pt b23 0), (Bo false), Ud, Ud, Ud, Ud, Ud, Ud, Ud, Ud, Ud, Ud, Ud, Ud]) rfl rfl (does_assign (u := (Bo false)) (ev rfl)) rfl ?_
  refine wpList_nil (hK15 _ _ ?_)
  refine wp_seq_k fun K31 hK31 => ?_
  refine wp_seq_k fun K32 hK32 => ?_
  obtain ⟨β1, hβ1⟩ : ∃ b : Bool, b = ((!(isCam A_c)) || (!(hasPx A_c x y))) := ⟨_, rfl⟩
  refine region_text (
    [Fact.pure [] (fun v => v = (Bo (isCam A_c))),
    Fact.pure [8] (fun v => v = (Bo (!(isCam A_c)))),
    Fact.pure [9] (fun v => v = (Bo (!(isCam A_c)))),
    Fact.pure [10] (fun v => (!(isCam A_c)) = false → v = (Iv x)),
    Fact.pure [10] (fun v => (!(isCam A_c)) = false → v = (Iv y)),
    Fact.pure [11, 12, 10] (fun v => (!(isCam A_c)) = false → v = (Bo (hasPx A_c x y))),
    Fact.pure [13, 10] (fun v => (!(isCam A_c)) = false → v = (Bo (!(hasPx A_c x y)))),
    Fact.pure [10, 14] (fun v => v = (Bo β1))]) (by simp [Fact.pure, Fact.mem]) ?_
  refine RW_d (fun v33 => [(.agg #[(Fl r1), (Fl r3), (Fl r5), (Fl r7), (Fl r9), (Fl r11), (Fl r13), (Iv A_c.width), (Iv A_c.height)]), (Iv x), (Iv y), (Pt b16 0), Ud, Ud, (Pt b23 0), (Bo false), v33, Ud, Ud, Ud, Ud, Ud, Ud, Ud, Ud, Ud, Ud, Ud]) rfl (fun _ => rfl) (fun u hu hF => ?_) (fun v33 => ?_)
  · clear hF
    refine doesG_un rfl ?_
    refine (does_call (args := #[(Pt b16 0)]) cal64 (evs rfl) (c_spec_l09Is b16 0 [(Fl r1), (Fl r3), (Fl r5), (Fl r7), (Fl r9), (Fl r11), (Fl r13), (Iv A_c.width), (Iv A_c.height)] A_c _ (Blk.cells ((hB18.ext E26).ext hu)) ⟨r1, r3, r5, r7, r9, r11, r13, rfl, h2, h4, h6, h8, h10, h12, h14⟩)).mono ?_; rintro v u' ⟨hx, hv⟩
    exact ⟨hv, hx⟩
  refine RW_d (fun v34 => [(.agg #[(Fl r1), (Fl r3), (Fl r5), (Fl r7), (Fl r9), (Fl r11), (Fl r13), (Iv A_c.width), (Iv A_c.height)]), (Iv x), (Iv y), (Pt b16 0), Ud, Ud, (Pt b23 0), (Bo false), v33, v34, Ud, Ud, Ud, Ud, Ud, Ud, Ud, Ud, Ud, Ud]) rfl (fun _ => rfl) (fun u hu hF => ?_) (fun v34 => ?_)
  · have h8_ : v33 = (Bo (isCam A_c)) := hF.1
    clear hF
    refine doesG_un rfl ?_
    obtain rfl := h8_
    refine (does_not (ev rfl)).mono ?_; rintro _ _ ⟨rfl, rfl⟩
    exact ⟨rfl, Ext.refl _⟩
  refine RW_d (fun v35 => [(.agg #[(Fl r1), (Fl r3), (Fl r5), (Fl r7), (Fl r9), (Fl r11), (Fl r13), (Iv A_c.width), (Iv A_c.height)]), (Iv x), (Iv y), (Pt b16 0), Ud, Ud, (Pt b23 0), (Bo false), v33, v34, v35, Ud, Ud, Ud, Ud, Ud, Ud, Ud, Ud, Ud]) rfl (fun _ => rfl) (fun u hu hF => ?_) (fun v35 => ?_)
  · have h9_ : v34 = (Bo (!(isCam A_c))) := hF.1
    clear hF
    refine doesG_un rfl ?_
    obtain rfl := h9_
    refine (does_move (u := (Bo (!(isCam A_c)))) (ev rfl)).mono ?_; rintro _ _ ⟨rfl, rfl⟩
    exact ⟨rfl, Ext.refl _⟩
  refine RW_d (fun v36 => [(.agg #[(Fl r1), (Fl r3), (Fl r5), (Fl r7), (Fl r9), (Fl r11), (Fl r13), (Iv A_c.width), (Iv A_c.height)]), (Iv x), (Iv y), (Pt b16 0), Ud, Ud, (Pt b23 0), (Bo false), v33, v34, v35, v36, Ud, Ud, Ud, Ud, Ud, Ud, Ud, Ud]) rfl (fun _ => rfl) (fun u hu hF => ?_) (fun v36 => ?_)
  · have h10_ : v35 = (Bo (!(isCam A_c))) := hF.1
    clear hF
    obtain rfl := h10_
    refine doesG_g (b := (!(isCam A_c))) rfl (yld rfl rfl) (fun hg1 => ?_) (fun hc => ⟨fun hg1 => absurd hg1 hc, Ext.refl _⟩)
    refine (does_move (u := (Iv x)) (ev rfl)).mono ?_; rintro _ _ ⟨rfl, rfl⟩
    exact ⟨fun _ => rfl, Ext.refl _⟩
  refine RW_d (fun v37 => [(.agg #[(Fl r1), (Fl r3), (Fl r5), (Fl r7), (Fl r9), (Fl r11), (Fl r13), (Iv A_c.width), (Iv A_c.height)]), (Iv x), (Iv y), (Pt b16 0), Ud, Ud, (Pt b23 0), (Bo false), v33, v34, v35, v36, v37, Ud, Ud, Ud, Ud, Ud, Ud, Ud]) rfl (fun _ => rfl) (fun u hu hF => ?_) (fun v37 => ?_)
  · have h10_ : v35 = (Bo (!(isCam A_c))) := hF.1
    clear hF
    obtain rfl := h10_
    refine doesG_g (b := (!(isCam A_c))) rfl (yld rfl rfl) (fun hg1 => ?_) (fun hc => ⟨fun hg1 => absurd hg1 hc, Ext.refl _⟩)
    refine (does_move (u := (Iv y)) (ev rfl)).mono ?_; rintro _ _ ⟨rfl, rfl⟩
    exact ⟨fun _ => rfl, Ext.refl _⟩
  refine RW_d (fun v38 => [(.agg #[(Fl r1), (Fl r3), (Fl r5), (Fl r7), (Fl r9), (Fl r11), (Fl r13), (Iv A_c.width), (Iv A_c.height)]), (Iv x), (Iv y), (Pt b16 0), Ud, Ud, (Pt b23 0), (Bo false), v33, v34, v35, v36, v37, v38, Ud, Ud, Ud, Ud, Ud, Ud]) rfl (fun _ => rfl) (fun u hu hF => ?_) (fun v38 => ?_)
  · have h11_ : (!(isCam A_c)) = false → v36 = (Iv x) := hF.1
    have h12_ : (!(isCam A_c)) = false → v37 = (Iv y) := hF.2.1
    have h10_ : v35 = (Bo (!(isCam A_c))) := hF.2.2.1
    clear hF
    obtain rfl := h10_
    refine doesG_g (b := (!(isCam A_c))) rfl (yld rfl rfl) (fun hg1 => ?_) (fun hc => ⟨fun hg1 => absurd hg1 hc, Ext.refl _⟩)
    obtain rfl := h11_ hg1
    obtain rfl := h12_ hg1
    refine (does_call (args := #[(Pt b16 0), (Iv x), (Iv y)]) cal70 (evs rfl) (c_spec_l09Pixel b16 0 [(Fl r1), (Fl r3), (Fl r5), (Fl r7), (Fl r9), (Fl r11), (Fl r13), (Iv A_c.width), (Iv A_c.height)] A_c x y _ (Blk.cells ((hB18.ext E26).ext hu)) ⟨r1, r3, r5, r7, r9, r11, r13, rfl, h2, h4, h6, h8, h10, h12, h14⟩)).mono ?_; rintro v u' ⟨hx, hv⟩
    exact ⟨fun _ => hv, hx⟩
  refine RW_d (fun v39 => [(.agg #[(Fl r1), (Fl r3), (Fl r5), (Fl r7), (Fl r9), (Fl r11), (Fl r13), (Iv A_c.width), (Iv A_c.height)]), (Iv x), (Iv y), (Pt b16 0), Ud, Ud, (Pt b23 0), (Bo false), v33, v34, v35, v36, v37, v38, v39, Ud, Ud, Ud, Ud, Ud]) rfl (fun _ => rfl) (fun u hu hF => ?_) (fun v39 => ?_)
  · have h13_ : (!(isCam A_c)) = false → v38 = (Bo (hasPx A_c x y)) := hF.1
    have h10_ : v35 = (Bo (!(isCam A_c))) := hF.2.1
    clear hF
    obtain rfl := h10_
    refine doesG_g (b := (!(isCam A_c))) rfl (yld rfl rfl) (fun hg1 => ?_) (fun hc => ⟨fun hg1 => absurd hg1 hc, Ext.refl _⟩)
    obtain rfl := h13_ hg1
    refine (does_not (ev rfl)).mono ?_; rintro _ _ ⟨rfl, rfl⟩
    exact ⟨fun _ => rfl, Ext.refl _⟩
  refine RW_d (fun v40 => [(.agg #[(Fl r1), (Fl r3), (Fl r5), (Fl r7), (Fl r9), (Fl r11), (Fl r13), (Iv A_c.width), (Iv A_c.height)]), (Iv x), (Iv y), (Pt b16 0), Ud, Ud, (Pt b23 0), (Bo false), v33, v34, v35, v36, v37, v38, v39, v40, Ud, Ud, Ud, Ud]) rfl (fun _ => rfl) (fun u hu hF => ?_) (fun v40 => ?_)
  · have h10_ : v35 = (Bo (!(isCam A_c))) := hF.1
    have h14_ : (!(isCam A_c)) = false → v39 = (Bo (!(hasPx A_c x y))) := hF.2.1
    clear hF
    refine doesG_un rfl ?_
    skip
    obtain rfl := h10_
    refine (does_pick (b := (!(isCam A_c))) (ev rfl) (ev rfl) (ev rfl)).mono ?_; rintro _ _ ⟨rfl, rfl⟩; refine ⟨?_, Ext.refl _⟩; rw [hβ1]; skip
    cases hbb : (!(isCam A_c)) <;> simp [hbb] at h14_ ⊢
    all_goals (first | rfl | (subst h14_; rfl) | simp_all)
  refine RW_fin ?_; intro w41 E42 hP43
  obtain ⟨⟨⟨⟨⟨⟨⟨⟨-, -⟩, -⟩, -⟩, -⟩, -⟩, -⟩, -⟩, q44⟩ := hP43
  have X45 := Ext.gr X30 E42
  have q44 : v40 = (Bo β1) := q44
  obtain rfl := q44
  show wpList _ _ _ _ (fr [(.agg #[(Fl r1), (Fl r3), (Fl r5), (Fl r7), (Fl r9), (Fl r11), (Fl r13), (Iv A_c.width), (Iv A_c.height)]), (Iv x), (Iv y), (Pt b16 0), Ud, Ud, (Pt b23 0), (Bo false), v33, v34, v35, v36, v37, v38, v39, (Bo β1), Ud, Ud, Ud, Ud]) _
  refine wpList_nil (hK32 _ _ ?_)
  refine wp_cond_split (t := β1) (ev rfl) (fun c46 => ?_) (fun c46 => ?_)
  · have c46' := c46
    (try simp only [hβ1] at c46')
    (try simp only [icmp, Bool.and_eq_true, Bool.or_eq_true, Bool.and_eq_false_iff, Bool.or_eq_false_iff, Bool.not_eq_true', Bool.not_eq_false', decide_eq_true_eq, decide_eq_false_iff_not, beq_iff_eq, bne_iff_ne, beq_eq_false_iff_ne, bne_eq_false_iff_eq] at c46')
    refine wp_seq_k fun K47 hK47 => ?_
    refine wp_region_lit ?_
    refine q_is (l' := [(.agg #[(Fl r1), (Fl r3), (Fl r5), (Fl r7), (Fl r9), (Fl r11), (Fl r13), (Iv A_c.width), (Iv A_c.height)]), (Iv x), (Iv y), (Pt b16 0), Ud, Ud, (Pt b23 0), (Bo false), v33, v34, v35, v36, v37, v38, v39, (Bo β1), (.agg #[(Fl 0), (Fl 0), (Fl 0), (Fl 0), (Fl 0), (Fl 0)]), Ud, Ud, Ud]) rfl rfl (does_build (parts' := []) (cells := #[(Fl 0), (Fl 0), (Fl 0), (Fl 0), (Fl 0), (Fl 0)]) (evp rfl) (by kernel_rfl)) rfl ?_
    refine seqn rfl rfl (does_store (n := 6) (cs := [(Fl 0), (Fl 0), (Fl 0), (Fl 0), (Fl 0), (Fl 0)]) (u := (.agg #[(Fl 0), (Fl 0), (Fl 0), (Fl 0), (Fl 0), (Fl 0)])) (ev rfl) (ev rfl) Try.sizeOf64 rfl (hB25.ext E42) (Nat.le_of_ble_eq_true rfl) rfl) ?_; rintro _ w50 ⟨rfl, W48, hB49⟩
    change Blk _ _ [(Fl 0), (Fl 0), (Fl 0), (Fl 0), (Fl 0), (Fl 0)] at hB49
    have X51 := Below.wr X45 W48 g29
    refine q_is (l' := [(.agg #[(Fl r1), (Fl r3), (Fl r5), (Fl r7), (Fl r9), (Fl r11), (Fl r13), (Iv A_c.width), (Iv A_c.height)]), (Iv x), (Iv y), (Pt b16 0), Ud, Ud, (Pt b23 0), (Bo false), v33, v34, v35, v36, v37, v38, v39, (Bo β1), (.agg #[(Fl 0), (Fl 0), (Fl 0), (Fl 0), (Fl 0), (Fl 0)]), Ud, Ud, Ud]) rfl rfl (does_assign (u := (Bo false)) (ev rfl)) rfl ?_
    refine wpList_nil (hK47 _ _ ?_)
    refine wp_ret ?_
    dsimp only [Exit.then, Exit.inBlock]
    refine ret_val (v := (.tuple #[(.agg #[(Fl 0), (Fl 0), (Fl 0), (Fl 0), (Fl 0), (Fl 0)]), (Bo false)])) (res_CT rfl (slot rfl) (run_loadAgg (cs := [(Fl 0), (Fl 0), (Fl 0), (Fl 0), (Fl 0), (Fl 0)]) Try.isAgg64 Try.sizeOf64 (Blk.cells hB49) rfl) (slot rfl)) X51 ?_
    try simp only [h2, h4, h6, h8, h10, h12, h14, hβ1] at c46
    have x52 : (camPx A_c x y) = false := by first | (rw [camPx_f (by assumption)]; simp only [gvA_f, zRay, zV]; done) | (rw [camPx_t (by assumption)]; simp only [gvA_t, gvA_t, gvA_f, zV, zRay, zB, Bool.true_and, Bool.false_and, Bool.and_true, Bool.and_false, h2, h4, h6, h8, h10, h12, h14, hβ1, c46]; done) | exact camPx_f (by assumption) | exact camPx_t (by assumption) | (rw [camPx_f (by assumption)]; rfl) | assumption | (simp only [gvA_t, gvA_f, zV, zRay, zB, Bool.true_and, Bool.false_and, Bool.and_true, Bool.and_false, h2, h4, h6, h8, h10, h12, h14, hβ1, c46]; done)
    have x53 : cf .f32 0 = (gvA zRay (camPx A_c x y) (rayC A_c x y)).frm.x := by first | (rw [camPx_f (by assumption)]; simp only [gvA_f, zRay, zV]; done) | (rw [camPx_t (by assumption)]; simp only [gvA_t, gvA_t, gvA_f, zV, zRay, zB, Bool.true_and, Bool.false_and, Bool.and_true, Bool.and_false, h2, h4, h6, h8, h10, h12, h14, hβ1, c46]; done) | exact camPx_f (by assumption) | exact camPx_t (by assumption) | (rw [camPx_f (by assumption)]; rfl) | assumption | (simp only [gvA_t, gvA_f, zV, zRay, zB, Bool.true_and, Bool.false_and, Bool.and_true, Bool.and_false, h2, h4, h6, h8, h10, h12, h14, hβ1, c46]; done)
    have x54 : cf .f32 0 = (gvA zRay (camPx A_c x y) (rayC A_c x y)).frm.y := by first | (rw [camPx_f (by assumption)]; simp only [gvA_f, zRay, zV]; done) | (rw [camPx_t (by assumption)]; simp only [gvA_t, gvA_t, gvA_f, zV, zRay, zB, Bool.true_and, Bool.false_and, Bool.and_true, Bool.and_false, h2, h4, h6, h8, h10, h12, h14, hβ1, c46]; done) | exact camPx_f (by assumption) | exact camPx_t (by assumption) | (rw [camPx_f (by assumption)]; rfl) | assumption | (simp only [gvA_t, gvA_f, zV, zRay, zB, Bool.true_and, Bool.false_and, Bool.and_true, Bool.and_false, h2, h4, h6, h8, h10, h12, h14, hβ1, c46]; done)
    have x55 : cf .f32 0 = (gvA zRay (camPx A_c x y) (rayC A_c x y)).frm.z := by first | (rw [camPx_f (by assumption)]; simp only [gvA_f, zRay, zV]; done) | (rw [camPx_t (by assumption)]; simp only [gvA_t, gvA_t, gvA_f, zV, zRay, zB, Bool.true_and, Bool.false_and, Bool.and_true, Bool.and_false, h2, h4, h6, h8, h10, h12, h14, hβ1, c46]; done) | exact camPx_f (by assumption) | exact camPx_t (by assumption) | (rw [camPx_f (by assumption)]; rfl) | assumption | (simp only [gvA_t, gvA_f, zV, zRay, zB, Bool.true_and, Bool.false_and, Bool.and_true, Bool.and_false, h2, h4, h6, h8, h10, h12, h14, hβ1, c46]; done)
    have x56 : cf .f32 0 = (gvA zRay (camPx A_c x y) (rayC A_c x y)).way.x := by first | (rw [camPx_f (by assumption)]; simp only [gvA_f, zRay, zV]; done) | (rw [camPx_t (by assumption)]; simp only [gvA_t, gvA_t, gvA_f, zV, zRay, zB, Bool.true_and, Bool.false_and, Bool.and_true, Bool.and_false, h2, h4, h6, h8, h10, h12, h14, hβ1, c46]; done) | exact camPx_f (by assumption) | exact camPx_t (by assumption) | (rw [camPx_f (by assumption)]; rfl) | assumption | (simp only [gvA_t, gvA_f, zV, zRay, zB, Bool.true_and, Bool.false_and, Bool.and_true, Bool.and_false, h2, h4, h6, h8, h10, h12, h14, hβ1, c46]; done)
    have x57 : cf .f32 0 = (gvA zRay (camPx A_c x y) (rayC A_c x y)).way.y := by first | (rw [camPx_f (by assumption)]; simp only [gvA_f, zRay, zV]; done) | (rw [camPx_t (by assumption)]; simp only [gvA_t, gvA_t, gvA_f, zV, zRay, zB, Bool.true_and, Bool.false_and, Bool.and_true, Bool.and_false, h2, h4, h6, h8, h10, h12, h14, hβ1, c46]; done) | exact camPx_f (by assumption) | exact camPx_t (by assumption) | (rw [camPx_f (by assumption)]; rfl) | assumption | (simp only [gvA_t, gvA_f, zV, zRay, zB, Bool.true_and, Bool.false_and, Bool.and_true, Bool.and_false, h2, h4, h6, h8, h10, h12, h14, hβ1, c46]; done)
    have x58 : cf .f32 0 = (gvA zRay (camPx A_c x y) (rayC A_c x y)).way.z := by first | (rw [camPx_f (by assumption)]; simp only [gvA_f, zRay, zV]; done) | (rw [camPx_t (by assumption)]; simp only [gvA_t, gvA_t, gvA_f, zV, zRay, zB, Bool.true_and, Bool.false_and, Bool.and_true, Bool.and_false, h2, h4, h6, h8, h10, h12, h14, hβ1, c46]; done) | exact camPx_f (by assumption) | exact camPx_t (by assumption) | (rw [camPx_f (by assumption)]; rfl) | assumption | (simp only [gvA_t, gvA_f, zV, zRay, zB, Bool.true_and, Bool.false_and, Bool.and_true, Bool.and_false, h2, h4, h6, h8, h10, h12, h14, hβ1, c46]; done)
    exact ⟨[(Fl 0), (Fl 0), (Fl 0), (Fl 0), (Fl 0), (Fl 0)], (by first | rfl | rw [x52]), ⟨0, 0, 0, 0, 0, 0, rfl, x53, x54, x55, x56, x57, x58⟩⟩
  have c46' := c46
  (try simp only [hβ1] at c46')
  (try simp only [icmp, Bool.and_eq_true, Bool.or_eq_true, Bool.and_eq_false_iff, Bool.or_eq_false_iff, Bool.not_eq_true', Bool.not_eq_false', decide_eq_true_eq, decide_eq_false_iff_not, beq_iff_eq, bne_iff_ne, beq_eq_false_iff_ne, bne_eq_false_iff_eq] at c46')
  refine wp_skip (hK31 _ _ ?_)
  refine wp_seq_k fun K59 hK59 => ?_
  refine wp_region_lit ?_
  refine q_is (l' := [(.agg #[(Fl r1), (Fl r3), (Fl r5), (Fl r7), (Fl r9), (Fl r11), (Fl r13), (Iv A_c.width), (Iv A_c.height)]), (Iv x), (Iv y), (Pt b16 0), Ud, Ud, (Pt b23 0), (Bo false), v33, v34, v35, v36, v37, v38, v39, (Bo β1), Ud, (Iv x), Ud, Ud]) rfl rfl (does_move (u := (Iv x)) (ev rfl)) rfl ?_
  refine q_is (l' := [(.agg #[(Fl r1), (Fl r3), (Fl r5), (Fl r7), (Fl r9), (Fl r11), (Fl r13), (Iv A_c.width), (Iv A_c.height)]), (Iv x), (Iv y), (Pt b16 0), Ud, Ud, (Pt b23 0), (Bo false), v33, v34, v35, v36, v37, v38, v39, (Bo β1), Ud, (Iv x), (Iv y), Ud]) rfl rfl (does_move (u := (Iv y)) (ev rfl)) rfl ?_
  refine seqd rfl rfl (does_call (args := #[(Pt b16 0), (Iv x), (Iv y)]) cal71 (evs rfl) (c_spec_l09Ray b16 0 [(Fl r1), (Fl r3), (Fl r5), (Fl r7), (Fl r9), (Fl r11), (Fl r13), (Iv A_c.width), (Iv A_c.height)] A_c x y _ (Blk.cells ((hB18.ext E26).ext E42)) ⟨r1, r3, r5, r7, r9, r11, r13, rfl, h2, h4, h6, h8, h10, h12, h14⟩)) ?_; rintro _ w61 ⟨E60, ⟨_, rfl, ⟨r62, r64, r66, r68, r70, r72, rfl, h63, h65, h67, h69, h71, h73⟩⟩⟩
  have X74 := Ext.gr X45 E60
  show wpList _ _ _ _ (fr [(.agg #[(Fl r1), (Fl r3), (Fl r5), (Fl r7), (Fl r9), (Fl r11), (Fl r13), (Iv A_c.width), (Iv A_c.height)]), (Iv x), (Iv y), (Pt b16 0), Ud, Ud, (Pt b23 0), (Bo false), v33, v34, v35, v36, v37, v38, v39, (Bo β1), Ud, (Iv x), (Iv y), (.agg #[(Fl r62), (Fl r64), (Fl r66), (Fl r68), (Fl r70), (Fl r72)])]) _
  refine seqn rfl rfl (does_store (n := 6) (cs := [(Fl 0), (Fl 0), (Fl 0), (Fl 0), (Fl 0), (Fl 0)]) (u := (.agg #[(Fl r62), (Fl r64), (Fl r66), (Fl r68), (Fl r70), (Fl r72)])) (ev rfl) (ev rfl) Try.sizeOf64 rfl ((hB25.ext E42).ext E60) (Nat.le_of_ble_eq_true rfl) rfl) ?_; rintro _ w77 ⟨rfl, W75, hB76⟩
  change Blk _ _ [(Fl r62), (Fl r64), (Fl r66), (Fl r68), (Fl r70), (Fl r72)] at hB76
  have X78 := Below.wr X74 W75 g29
  refine q_is (l' := [(.agg #[(Fl r1), (Fl r3), (Fl r5), (Fl r7), (Fl r9), (Fl r11), (Fl r13), (Iv A_c.width), (Iv A_c.height)]), (Iv x), (Iv y), (Pt b16 0), Ud, Ud, (Pt b23 0), (Bo true), v33, v34, v35, v36, v37, v38, v39, (Bo β1), Ud, (Iv x), (Iv y), (.agg #[(Fl r62), (Fl r64), (Fl r66), (Fl r68), (Fl r70), (Fl r72)])]) rfl rfl (does_assign (u := (Bo true)) (ev rfl)) rfl ?_
  refine wpList_nil (hK59 _ _ ?_)
  refine wp_ret ?_
  refine ret_val (v := (.tuple #[(.agg #[(Fl r62), (Fl r64), (Fl r66), (Fl r68), (Fl r70), (Fl r72)]), (Bo true)])) (res_CT rfl (slot rfl) (run_loadAgg (cs := [(Fl r62), (Fl r64), (Fl r66), (Fl r68), (Fl r70), (Fl r72)]) Try.isAgg64 Try.sizeOf64 (Blk.cells hB76) rfl) (slot rfl)) X78 ?_
  try simp only [h2, h4, h6, h8, h10, h12, h14, hβ1, h63, h65, h67, h69, h71, h73] at c46
  have x79 : (camPx A_c x y) = true := by first | (rw [camPx_f (by assumption)]; simp only [gvA_f, zRay, zV]; done) | (rw [camPx_t (by assumption)]; simp only [gvA_t, gvA_t, gvA_f, zV, zRay, zB, Bool.true_and, Bool.false_and, Bool.and_true, Bool.and_false, h2, h4, h6, h8, h10, h12, h14, hβ1, h63, h65, h67, h69, h71, h73, c46]; done) | exact camPx_f (by assumption) | exact camPx_t (by assumption) | (rw [camPx_f (by assumption)]; rfl) | assumption | (simp only [gvA_t, gvA_f, zV, zRay, zB, Bool.true_and, Bool.false_and, Bool.and_true, Bool.and_false, h2, h4, h6, h8, h10, h12, h14, hβ1, h63, h65, h67, h69, h71, h73, c46]; done)
  have x80 : cf .f32 r62 = (gvA zRay (camPx A_c x y) (rayC A_c x y)).frm.x := by first | (rw [camPx_f (by assumption)]; simp only [gvA_f, zRay, zV]; done) | (rw [camPx_t (by assumption)]; simp only [gvA_t, gvA_t, gvA_f, zV, zRay, zB, Bool.true_and, Bool.false_and, Bool.and_true, Bool.and_false, h2, h4, h6, h8, h10, h12, h14, hβ1, h63, h65, h67, h69, h71, h73, c46]; done) | exact camPx_f (by assumption) | exact camPx_t (by assumption) | (rw [camPx_f (by assumption)]; rfl) | assumption | (simp only [gvA_t, gvA_f, zV, zRay, zB, Bool.true_and, Bool.false_and, Bool.and_true, Bool.and_false, h2, h4, h6, h8, h10, h12, h14, hβ1, h63, h65, h67, h69, h71, h73, c46]; done)
  have x81 : cf .f32 r64 = (gvA zRay (camPx A_c x y) (rayC A_c x y)).frm.y := by first | (rw [camPx_f (by assumption)]; simp only [gvA_f, zRay, zV]; done) | (rw [camPx_t (by assumption)]; simp only [gvA_t, gvA_t, gvA_f, zV, zRay, zB, Bool.true_and, Bool.false_and, Bool.and_true, Bool.and_false, h2, h4, h6, h8, h10, h12, h14, hβ1, h63, h65, h67, h69, h71, h73, c46]; done) | exact camPx_f (by assumption) | exact camPx_t (by assumption) | (rw [camPx_f (by assumption)]; rfl) | assumption | (simp only [gvA_t, gvA_f, zV, zRay, zB, Bool.true_and, Bool.false_and, Bool.and_true, Bool.and_false, h2, h4, h6, h8, h10, h12, h14, hβ1, h63, h65, h67, h69, h71, h73, c46]; done)
  have x82 : cf .f32 r66 = (gvA zRay (camPx A_c x y) (rayC A_c x y)).frm.z := by first | (rw [camPx_f (by assumption)]; simp only [gvA_f, zRay, zV]; done) | (rw [camPx_t (by assumption)]; simp only [gvA_t, gvA_t, gvA_f, zV, zRay, zB, Bool.true_and, Bool.false_and, Bool.and_true, Bool.and_false, h2, h4, h6, h8, h10, h12, h14, hβ1, h63, h65, h67, h69, h71, h73, c46]; done) | exact camPx_f (by assumption) | exact camPx_t (by assumption) | (rw [camPx_f (by assumption)]; rfl) | assumption | (simp only [gvA_t, gvA_f, zV, zRay, zB, Bool.true_and, Bool.false_and, Bool.and_true, Bool.and_false, h2, h4, h6, h8, h10, h12, h14, hβ1, h63, h65, h67, h69, h71, h73, c46]; done)
  have x83 : cf .f32 r68 = (gvA zRay (camPx A_c x y) (rayC A_c x y)).way.x := by first | (rw [camPx_f (by assumption)]; simp only [gvA_f, zRay, zV]; done) | (rw [camPx_t (by assumption)]; simp only [gvA_t, gvA_t, gvA_f, zV, zRay, zB, Bool.true_and, Bool.false_and, Bool.and_true, Bool.and_false, h2, h4, h6, h8, h10, h12, h14, hβ1, h63, h65, h67, h69, h71, h73, c46]; done) | exact camPx_f (by assumption) | exact camPx_t (by assumption) | (rw [camPx_f (by assumption)]; rfl) | assumption | (simp only [gvA_t, gvA_f, zV, zRay, zB, Bool.true_and, Bool.false_and, Bool.and_true, Bool.and_false, h2, h4, h6, h8, h10, h12, h14, hβ1, h63, h65, h67, h69, h71, h73, c46]; done)
  have x84 : cf .f32 r70 = (gvA zRay (camPx A_c x y) (rayC A_c x y)).way.y := by first | (rw [camPx_f (by assumption)]; simp only [gvA_f, zRay, zV]; done) | (rw [camPx_t (by assumption)]; simp only [gvA_t, gvA_t, gvA_f, zV, zRay, zB, Bool.true_and, Bool.false_and, Bool.and_true, Bool.and_false, h2, h4, h6, h8, h10, h12, h14, hβ1, h63, h65, h67, h69, h71, h73, c46]; done) | exact camPx_f (by assumption) | exact camPx_t (by assumption) | (rw [camPx_f (by assumption)]; rfl) | assumption | (simp only [gvA_t, gvA_f, zV, zRay, zB, Bool.true_and, Bool.false_and, Bool.and_true, Bool.and_false, h2, h4, h6, h8, h10, h12, h14, hβ1, h63, h65, h67, h69, h71, h73, c46]; done)
  have x85 : cf .f32 r72 = (gvA zRay (camPx A_c x y) (rayC A_c x y)).way.z := by first | (rw [camPx_f (by assumption)]; simp only [gvA_f, zRay, zV]; done) | (rw [camPx_t (by assumption)]; simp only [gvA_t, gvA_t, gvA_f, zV, zRay, zB, Bool.true_and, Bool.false_and, Bool.and_true, Bool.and_false, h2, h4, h6, h8, h10, h12, h14, hβ1, h63, h65, h67, h69, h71, h73, c46]; done) | exact camPx_f (by assumption) | exact camPx_t (by assumption) | (rw [camPx_f (by assumption)]; rfl) | assumption | (simp only [gvA_t, gvA_f, zV, zRay, zB, Bool.true_and, Bool.false_and, Bool.and_true, Bool.and_false, h2, h4, h6, h8, h10, h12, h14, hβ1, h63, h65, h67, h69, h71, h73, c46]; done)
  exact ⟨[(Fl r62), (Fl r64), (Fl r66), (Fl r68), (Fl r70), (Fl r72)], (by first | rfl | rw [x79]), ⟨r62, r64, r66, r68, r70, r72, rfl, x80, x81, x82, x83, x84, x85⟩⟩

/- impl.in -/
theorem c_impl_in (n : Int) (low : Int) (high : Int) (w : World) : Gives Try.prog 56 #[(Iv n), (Iv low), (Iv high)] w (fun v w' => v = (Bo (inI n low high))) := by
  refine enter [(Iv n), (Iv low), (Iv high), Ud, Ud, Ud, Ud, Ud, Ud, Ud, Ud, Ud, Ud, Ud, Ud] Try.func56 rfl Try.ntmps56 rfl ?_
  refine wp_seq_k fun K1 hK1 => ?_
  refine wp_region_lit ?_
  refine q_is (l' := [(Iv n), (Iv low), (Iv high), Ud, Ud, Ud, (Bo false), Ud, Ud, Ud, Ud, Ud, Ud, Ud, Ud]) rfl rfl (does_assign (u := (Bo false)) (ev rfl)) rfl ?_
  refine wpList_nil (hK1 _ _ ?_)
  refine wp_seq_k fun K2 hK2 => ?_
  obtain ⟨β1, hβ1⟩ : ∃ b : Bool, b = ((icmp .geq n low) && (icmp .leq n high)) := ⟨_, rfl⟩
  refine region_text (
    [Fact.pure [] (fun v => v = (Iv n)),
    Fact.pure [] (fun v => v = (Iv low)),
    Fact.pure [7, 8] (fun v => v = (Bo (icmp .geq n low))),
    Fact.pure [9] (fun v => v = (Bo (icmp .geq n low))),
    Fact.pure [10] (fun v => (icmp .geq n low) = true → v = (Iv n)),
    Fact.pure [10] (fun v => (icmp .geq n low) = true → v = (Iv high)),
    Fact.pure [11, 12, 10] (fun v => (icmp .geq n low) = true → v = (Bo (icmp .leq n high))),
    Fact.pure [10, 13] (fun v => v = (Bo β1))]) (by simp [Fact.pure, Fact.mem]) ?_
  refine RW_d (fun v3 => [(Iv n), (Iv low), (Iv high), Ud, Ud, Ud, (Bo false), v3, Ud, Ud, Ud, Ud, Ud, Ud, Ud]) rfl (fun _ => rfl) (fun u hu hF => ?_) (fun v3 => ?_)
  · clear hF
    refine doesG_un rfl ?_
    refine (does_move (u := (Iv n)) (ev rfl)).mono ?_; rintro _ _ ⟨rfl, rfl⟩
    exact ⟨rfl, Ext.refl _⟩
  refine RW_d (fun v4 => [(Iv n), (Iv low), (Iv high), Ud, Ud, Ud, (Bo false), v3, v4, Ud, Ud, Ud, Ud, Ud, Ud]) rfl (fun _ => rfl) (fun u hu hF => ?_) (fun v4 => ?_)
  · clear hF
    refine doesG_un rfl ?_
    refine (does_move (u := (Iv low)) (ev rfl)).mono ?_; rintro _ _ ⟨rfl, rfl⟩
    exact ⟨rfl, Ext.refl _⟩
  refine RW_d (fun v5 => [(Iv n), (Iv low), (Iv high), Ud, Ud, Ud, (Bo false), v3, v4, v5, Ud, Ud, Ud, Ud, Ud]) rfl (fun _ => rfl) (fun u hu hF => ?_) (fun v5 => ?_)
  · have h7_ : v3 = (Iv n) := hF.1
    have h8_ : v4 = (Iv low) := hF.2.1
    clear hF
    refine doesG_un rfl ?_
    obtain rfl := h7_
    obtain rfl := h8_
    refine (does_icmp (p := n) (q := low) (.inr (.inr (.inr (.inr (.inr rfl))))) (ev rfl) (ev rfl)).mono ?_; rintro _ _ ⟨rfl, rfl⟩
    exact ⟨rfl, Ext.refl _⟩
  refine RW_d (fun v6 => [(Iv n), (Iv low), (Iv high), Ud, Ud, Ud, (Bo false), v3, v4, v5, v6, Ud, Ud, Ud, Ud]) rfl (fun _ => rfl) (fun u hu hF => ?_) (fun v6 => ?_)
  · have h9_ : v5 = (Bo (icmp .geq n low)) := hF.1
    clear hF
    refine doesG_un rfl ?_
    obtain rfl := h9_
    refine (does_move (u := (Bo (icmp .geq n low))) (ev rfl)).mono ?_; rintro _ _ ⟨rfl, rfl⟩
    exact ⟨rfl, Ext.refl _⟩
  refine RW_d (fun v7 => [(Iv n), (Iv low), (Iv high), Ud, Ud, Ud, (Bo false), v3, v4, v5, v6, v7, Ud, Ud, Ud]) rfl (fun _ => rfl) (fun u hu hF => ?_) (fun v7 => ?_)
  · have h10_ : v6 = (Bo (icmp .geq n low)) := hF.1
    clear hF
    obtain rfl := h10_
    refine doesG_g (b := (icmp .geq n low)) rfl (yld rfl rfl) (fun hg1 => ?_) (fun hc => ⟨fun hg1 => absurd hg1 hc, Ext.refl _⟩)
    refine (does_move (u := (Iv n)) (ev rfl)).mono ?_; rintro _ _ ⟨rfl, rfl⟩
    exact ⟨fun _ => rfl, Ext.refl _⟩
  refine RW_d (fun v8 => [(Iv n), (Iv low), (Iv high), Ud, Ud, Ud, (Bo false), v3, v4, v5, v6, v7, v8, Ud, Ud]) rfl (fun _ => rfl) (fun u hu hF => ?_) (fun v8 => ?_)
  · have h10_ : v6 = (Bo (icmp .geq n low)) := hF.1
    clear hF
    obtain rfl := h10_
    refine doesG_g (b := (icmp .geq n low)) rfl (yld rfl rfl) (fun hg1 => ?_) (fun hc => ⟨fun hg1 => absurd hg1 hc, Ext.refl _⟩)
    refine (does_move (u := (Iv high)) (ev rfl)).mono ?_; rintro _ _ ⟨rfl, rfl⟩
    exact ⟨fun _ => rfl, Ext.refl _⟩
  refine RW_d (fun v9 => [(Iv n), (Iv low), (Iv high), Ud, Ud, Ud, (Bo false), v3, v4, v5, v6, v7, v8, v9, Ud]) rfl (fun _ => rfl) (fun u hu hF => ?_) (fun v9 => ?_)
  · have h11_ : (icmp .geq n low) = true → v7 = (Iv n) := hF.1
    have h12_ : (icmp .geq n low) = true → v8 = (Iv high) := hF.2.1
    have h10_ : v6 = (Bo (icmp .geq n low)) := hF.2.2.1
    clear hF
    obtain rfl := h10_
    refine doesG_g (b := (icmp .geq n low)) rfl (yld rfl rfl) (fun hg1 => ?_) (fun hc => ⟨fun hg1 => absurd hg1 hc, Ext.refl _⟩)
    obtain rfl := h11_ hg1
    obtain rfl := h12_ hg1
    refine (does_icmp (p := n) (q := high) (.inr (.inr (.inr (.inl rfl)))) (ev rfl) (ev rfl)).mono ?_; rintro _ _ ⟨rfl, rfl⟩
    exact ⟨fun _ => rfl, Ext.refl _⟩
  refine RW_d (fun v10 => [(Iv n), (Iv low), (Iv high), Ud, Ud, Ud, (Bo false), v3, v4, v5, v6, v7, v8, v9, v10]) rfl (fun _ => rfl) (fun u hu hF => ?_) (fun v10 => ?_)
  · have h10_ : v6 = (Bo (icmp .geq n low)) := hF.1
    have h13_ : (icmp .geq n low) = true → v9 = (Bo (icmp .leq n high)) := hF.2.1
    clear hF
    refine doesG_un rfl ?_
    skip
    obtain rfl := h10_
    refine (does_pick (b := (icmp .geq n low)) (ev rfl) (ev rfl) (ev rfl)).mono ?_; rintro _ _ ⟨rfl, rfl⟩; refine ⟨?_, Ext.refl _⟩; rw [hβ1]; skip
    cases hbb : (icmp .geq n low) <;> simp [hbb] at h13_ ⊢
    all_goals (first | rfl | (subst h13_; rfl) | simp_all)
  refine RW_fin ?_; intro w11 E12 hP13
  obtain ⟨⟨⟨⟨⟨⟨⟨⟨-, -⟩, -⟩, -⟩, -⟩, -⟩, -⟩, -⟩, q14⟩ := hP13
  have X15 := Ext.gr (Ext.refl w) E12
  have q14 : v10 = (Bo β1) := q14
  obtain rfl := q14
  show wpList _ _ _ _ (fr [(Iv n), (Iv low), (Iv high), Ud, Ud, Ud, (Bo false), v3, v4, v5, v6, v7, v8, v9, (Bo β1)]) _
  refine q_is (l' := [(Iv n), (Iv low), (Iv high), Ud, Ud, Ud, (Bo β1), v3, v4, v5, v6, v7, v8, v9, (Bo β1)]) rfl rfl (does_assign (u := (Bo β1)) (ev rfl)) rfl ?_
  refine wpList_nil (hK2 _ _ ?_)
  refine wp_ret ?_
  refine ret_val (v := (Bo β1)) (res_T rfl (slot rfl)) X15 ?_
  have x16 : (inI n low high) = β1 := by first | with_reducible rfl | (simp only [inI, hβ1]; done) | (simp [inI, hβ1]; done) | rfl
  exact (by first | rfl | rw [x16])

/- slices.IndexFunc[[]float32,float32] -/
theorem c_slices_IndexFunc_float32_float32 (xs : Value) (L_xs : List Nat) (f : Value) (pr_f : Nat → Bool) (w : World) (hv_xs : Sl RF 1 w xs L_xs) (hv_f : TellsF Try.prog f w pr_f) : Gives Try.prog 115 #[xs, f] w (fun v w' => v = (Iv (findI pr_f L_xs))) := by
  have hlen_xs := Sl.len hv_xs; obtain ⟨p_xs, q_xs, rfl⟩ := Sl.shape hv_xs
  obtain ⟨f_f, s_f, c_f, rfl, hcal_f, hg_f⟩ := hv_f
  refine enter [(.slice p_xs L_xs.length q_xs), (.func (.func f_f) s_f c_f), Ud, Ud, Ud, Ud, Ud, Ud, Ud, Ud, Ud, Ud, Ud, Ud, Ud, Ud, Ud, Ud, Ud] Try.func115 rfl Try.ntmps115 rfl ?_
  refine wp_seq_k fun K1 hK1 => ?_
  refine wp_region_lit ?_
  refine q_is (l' := [(.slice p_xs L_xs.length q_xs), (.func (.func f_f) s_f c_f), Ud, Ud, (Iv 0), Ud, Ud, Ud, Ud, Ud, Ud, Ud, Ud, Ud, Ud, Ud, Ud, Ud, Ud]) rfl rfl (does_assign (u := (Iv 0)) (ev rfl)) rfl ?_
  refine wpList_nil (hK1 _ _ ?_)
  refine wp_seq_k fun K2 hK2 => ?_
  refine wp_seq_k fun K3 hK3 => ?_
  refine wp_region_lit ?_
  refine q_is (l' := [(.slice p_xs L_xs.length q_xs), (.func (.func f_f) s_f c_f), Ud, Ud, (Iv 0), Ud, (.slice p_xs L_xs.length q_xs), Ud, Ud, Ud, Ud, Ud, Ud, Ud, Ud, Ud, Ud, Ud, Ud]) rfl rfl (does_move (u := (.slice p_xs L_xs.length q_xs)) (ev rfl)) rfl ?_
  refine q_is (l' := [(.slice p_xs L_xs.length q_xs), (.func (.func f_f) s_f c_f), Ud, Ud, (Iv 0), Ud, (.slice p_xs L_xs.length q_xs), (Iv (L_xs.length : Int)), Ud, Ud, Ud, Ud, Ud, Ud, Ud, Ud, Ud, Ud, Ud]) rfl rfl (does_len_slice Try.underlying75 (ev rfl)) rfl ?_
  refine q_is (l' := [(.slice p_xs L_xs.length q_xs), (.func (.func f_f) s_f c_f), Ud, Ud, (Iv 0), Ud, (.slice p_xs L_xs.length q_xs), (Iv (L_xs.length : Int)), (Iv 0), Ud, Ud, Ud, Ud, Ud, Ud, Ud, Ud, Ud, Ud]) rfl rfl (does_move (u := (Iv 0)) (ev rfl)) rfl ?_
  refine wpList_nil (hK3 _ _ ?_)
  refine wp_block ?_
  refine loop_ghost (σ := Nat) (fun k a w' => ∃ u4 : Nat → Value, a = fr [(.slice p_xs L_xs.length q_xs), (.func (.func f_f) s_f c_f), Ud, Ud, (u4 4), (u4 5), (.slice p_xs L_xs.length q_xs), (Iv (L_xs.length : Int)), (Iv (k : Int)), (u4 9), (u4 10), (u4 11), (u4 12), (u4 13), (u4 14), (u4 15), (u4 16), (u4 17), (u4 18)] ∧ Ext w w' ∧ (k ≤ L_xs.length ∧ NoneTo pr_f L_xs k)) (fun k => L_xs.length - k) 0 ?_ ?_
  · refine ⟨fun t => (([(.slice p_xs L_xs.length q_xs), (.func (.func f_f) s_f c_f), Ud, Ud, (Iv 0), Ud, (.slice p_xs L_xs.length q_xs), (Iv (L_xs.length : Int)), (Iv 0), Ud, Ud, Ud, Ud, Ud, Ud, Ud, Ud, Ud, Ud] : List Value)[t]?).getD undef, rfl, Ext.refl _, ?_⟩
    exact ⟨Nat.zero_le _, NoneTo.zero⟩
  · rintro k a w5 ⟨u4, rfl, E6, ⟨hk, hno⟩⟩
    have X8 := Ext.gr (Ext.refl w) E6
    refine wp_seq_k fun K9 hK9 => ?_
    refine wp_region_lit ?_
    refine q_is (l' := [(.slice p_xs L_xs.length q_xs), (.func (.func f_f) s_f c_f), Ud, Ud, (u4 4), (u4 5), (.slice p_xs L_xs.length q_xs), (Iv (L_xs.length : Int)), (Iv (k : Int)), (Bo (icmp .lss (k : Int) (L_xs.length : Int))), (u4 10), (u4 11), (u4 12), (u4 13), (u4 14), (u4 15), (u4 16), (u4 17), (u4 18)]) rfl rfl (does_icmp (p := (k : Int)) (q := (L_xs.length : Int)) (.inr (.inr (.inl rfl))) (ev rfl) (ev rfl)) rfl ?_
    refine wpList_nil (hK9 _ _ ?_)
    refine wp_seq_k fun K10 hK10 => ?_
    refine wp_cond_split (t := icmp .lss (k : Int) (L_xs.length : Int)) (ev rfl) (fun c11 => ?_) (fun c11 => ?_)
    · have c11' := c11
      (try simp only [icmp, Bool.and_eq_true, Bool.or_eq_true, Bool.and_eq_false_iff, Bool.or_eq_false_iff, Bool.not_eq_true', Bool.not_eq_false', decide_eq_true_eq, decide_eq_false_iff_not, beq_iff_eq, bne_iff_ne, beq_eq_false_iff_ne, bne_eq_false_iff_eq] at c11')
      refine wp_skip (hK10 _ _ ?_)
      refine wp_seq_k fun K12 hK12 => ?_
      refine wp_block ?_
      refine wp_seq_k fun K13 hK13 => ?_
      refine wp_region_lit ?_
      refine q_is (l' := [(.slice p_xs L_xs.length q_xs), (.func (.func f_f) s_f c_f), Ud, Ud, (u4 4), (u4 5), (.slice p_xs L_xs.length q_xs), (Iv (L_xs.length : Int)), (Iv (k : Int)), (Bo (icmp .lss (k : Int) (L_xs.length : Int))), (Iv (k : Int)), (u4 11), (u4 12), (u4 13), (u4 14), (u4 15), (u4 16), (u4 17), (u4 18)]) rfl rfl (does_move (u := (Iv (k : Int))) (ev rfl)) rfl ?_
      refine q_is (l' := [(.slice p_xs L_xs.length q_xs), (.func (.func f_f) s_f c_f), Ud, Ud, (u4 4), (Iv (k : Int)), (.slice p_xs L_xs.length q_xs), (Iv (L_xs.length : Int)), (Iv (k : Int)), (Bo (icmp .lss (k : Int) (L_xs.length : Int))), (Iv (k : Int)), (u4 11), (u4 12), (u4 13), (u4 14), (u4 15), (u4 16), (u4 17), (u4 18)]) rfl rfl (does_assign (u := (Iv (k : Int))) (ev rfl)) rfl ?_
      refine wpList_nil (hK13 _ _ ?_)
      refine wp_seq_k fun K14 hK14 => ?_
      refine wp_region_lit ?_
      refine q_is (l' := [(.slice p_xs L_xs.length q_xs), (.func (.func f_f) s_f c_f), Ud, Ud, (u4 4), (Iv (k : Int)), (.slice p_xs L_xs.length q_xs), (Iv (L_xs.length : Int)), (Iv (k : Int)), (Bo (icmp .lss (k : Int) (L_xs.length : Int))), (Iv (k : Int)), (.func (.func f_f) s_f c_f), (u4 12), (u4 13), (u4 14), (u4 15), (u4 16), (u4 17), (u4 18)]) rfl rfl (does_move (u := (.func (.func f_f) s_f c_f)) (ev rfl)) rfl ?_
      refine q_is (l' := [(.slice p_xs L_xs.length q_xs), (.func (.func f_f) s_f c_f), Ud, Ud, (u4 4), (Iv (k : Int)), (.slice p_xs L_xs.length q_xs), (Iv (L_xs.length : Int)), (Iv (k : Int)), (Bo (icmp .lss (k : Int) (L_xs.length : Int))), (Iv (k : Int)), (.func (.func f_f) s_f c_f), (.slice p_xs L_xs.length q_xs), (u4 13), (u4 14), (u4 15), (u4 16), (u4 17), (u4 18)]) rfl rfl (does_move (u := (.slice p_xs L_xs.length q_xs)) (ev rfl)) rfl ?_
      refine q_is (l' := [(.slice p_xs L_xs.length q_xs), (.func (.func f_f) s_f c_f), Ud, Ud, (u4 4), (Iv (k : Int)), (.slice p_xs L_xs.length q_xs), (Iv (L_xs.length : Int)), (Iv (k : Int)), (Bo (icmp .lss (k : Int) (L_xs.length : Int))), (Iv (k : Int)), (.func (.func f_f) s_f c_f), (.slice p_xs L_xs.length q_xs), (Iv (k : Int)), (u4 14), (u4 15), (u4 16), (u4 17), (u4 18)]) rfl rfl (does_move (u := (Iv (k : Int))) (ev rfl)) rfl ?_
      obtain ⟨el1, hel1⟩ : ∃ e, L_xs[k]? = some e := ⟨_, List.getElem?_eq_getElem (by omega)⟩
      refine seqd rfl rfl (does_indexSl (R := RF) (i := (k : Int)) (xs := L_xs) (e := el1) Try.underlying75 Try.sizeOf24 (ev rfl) (ev rfl) (Sl.ext hv_xs RF.mono X8) (by omega) hel1) ?_; rintro _ _ ⟨b15, o16, _, rfl, hc18, ⟨r19, rfl, h20⟩, rfl⟩
      show wpList _ _ _ _ (fr [(.slice p_xs L_xs.length q_xs), (.func (.func f_f) s_f c_f), Ud, Ud, (u4 4), (Iv (k : Int)), (.slice p_xs L_xs.length q_xs), (Iv (L_xs.length : Int)), (Iv (k : Int)), (Bo (icmp .lss (k : Int) (L_xs.length : Int))), (Iv (k : Int)), (.func (.func f_f) s_f c_f), (.slice p_xs L_xs.length q_xs), (Iv (k : Int)), (Pt b15 o16), (u4 15), (u4 16), (u4 17), (u4 18)]) _
      refine q_is (l' := [(.slice p_xs L_xs.length q_xs), (.func (.func f_f) s_f c_f), Ud, Ud, (u4 4), (Iv (k : Int)), (.slice p_xs L_xs.length q_xs), (Iv (L_xs.length : Int)), (Iv (k : Int)), (Bo (icmp .lss (k : Int) (L_xs.length : Int))), (Iv (k : Int)), (.func (.func f_f) s_f c_f), (.slice p_xs L_xs.length q_xs), (Iv (k : Int)), (Pt b15 o16), (Fl r19), (u4 16), (u4 17), (u4 18)]) rfl rfl (does_load (u := (Fl r19)) (ev rfl) Try.isAgg24 (Cells.at hc18 0 rfl)) rfl ?_
      refine seqd rfl rfl (does_callf (args := #[(Fl r19)]) (ev rfl) hcal_f (evs rfl) (hg_f r19 _ X8)) ?_; rintro _ w22 ⟨E21, rfl⟩
      have X23 := Ext.gr X8 E21
      show wpList _ _ _ _ (fr [(.slice p_xs L_xs.length q_xs), (.func (.func f_f) s_f c_f), Ud, Ud, (u4 4), (Iv (k : Int)), (.slice p_xs L_xs.length q_xs), (Iv (L_xs.length : Int)), (Iv (k : Int)), (Bo (icmp .lss (k : Int) (L_xs.length : Int))), (Iv (k : Int)), (.func (.func f_f) s_f c_f), (.slice p_xs L_xs.length q_xs), (Iv (k : Int)), (Pt b15 o16), (Fl r19), (Bo (pr_f (cf .f32 r19))), (u4 17), (u4 18)]) _
      refine wpList_nil (hK14 _ _ ?_)
      refine wp_cond_split (t := pr_f (cf .f32 r19)) (ev rfl) (fun c24 => ?_) (fun c24 => ?_)
      · have c24' := c24
        refine wp_seq_k fun K25 hK25 => ?_
        refine wp_region_lit ?_
        refine q_is (l' := [(.slice p_xs L_xs.length q_xs), (.func (.func f_f) s_f c_f), Ud, Ud, (u4 4), (Iv (k : Int)), (.slice p_xs L_xs.length q_xs), (Iv (L_xs.length : Int)), (Iv (k : Int)), (Bo (icmp .lss (k : Int) (L_xs.length : Int))), (Iv (k : Int)), (.func (.func f_f) s_f c_f), (.slice p_xs L_xs.length q_xs), (Iv (k : Int)), (Pt b15 o16), (Fl r19), (Bo (pr_f (cf .f32 r19))), (Iv (k : Int)), (u4 18)]) rfl rfl (does_move (u := (Iv (k : Int))) (ev rfl)) rfl ?_
        refine q_is (l' := [(.slice p_xs L_xs.length q_xs), (.func (.func f_f) s_f c_f), Ud, Ud, (Iv (k : Int)), (Iv (k : Int)), (.slice p_xs L_xs.length q_xs), (Iv (L_xs.length : Int)), (Iv (k : Int)), (Bo (icmp .lss (k : Int) (L_xs.length : Int))), (Iv (k : Int)), (.func (.func f_f) s_f c_f), (.slice p_xs L_xs.length q_xs), (Iv (k : Int)), (Pt b15 o16), (Fl r19), (Bo (pr_f (cf .f32 r19))), (Iv (k : Int)), (u4 18)]) rfl rfl (does_assign (u := (Iv (k : Int))) (ev rfl)) rfl ?_
        refine wpList_nil (hK25 _ _ ?_)
        refine wp_ret ?_
        dsimp only [Exit.then, Exit.inBlock]
        refine ret_val (v := (Iv (k : Int))) (res_T rfl (slot rfl)) X23 ?_
        try simp only [hel1, h20] at c11 c24
        have x26 : (findI pr_f L_xs : Int) = (k : Int) := by first | exact findI_at hno (by assumption) (by simp_all) | exact findI_none hno (by omega)
        exact (by first | rfl | rw [x26])
      have c24' := c24
      refine wp_skip (hK12 _ _ ?_)
      refine wp_region_lit ?_
      refine q_is (l' := [(.slice p_xs L_xs.length q_xs), (.func (.func f_f) s_f c_f), Ud, Ud, (u4 4), (Iv (k : Int)), (.slice p_xs L_xs.length q_xs), (Iv (L_xs.length : Int)), (Iv (k : Int)), (Bo (icmp .lss (k : Int) (L_xs.length : Int))), (Iv (k : Int)), (.func (.func f_f) s_f c_f), (.slice p_xs L_xs.length q_xs), (Iv (k : Int)), (Pt b15 o16), (Fl r19), (Bo (pr_f (cf .f32 r19))), (u4 17), (Iv ((k : Int) + 1))]) rfl rfl (does_iarith (p := (k : Int)) (q := 1) (r := (k : Int) + 1) (ev rfl) (ev rfl) (.inl ⟨rfl, (in_i64 (by omega) (by omega)).symm⟩)) rfl ?_
      refine q_is (l' := [(.slice p_xs L_xs.length q_xs), (.func (.func f_f) s_f c_f), Ud, Ud, (u4 4), (Iv (k : Int)), (.slice p_xs L_xs.length q_xs), (Iv (L_xs.length : Int)), (Iv ((k : Int) + 1)), (Bo (icmp .lss (k : Int) (L_xs.length : Int))), (Iv (k : Int)), (.func (.func f_f) s_f c_f), (.slice p_xs L_xs.length q_xs), (Iv (k : Int)), (Pt b15 o16), (Fl r19), (Bo (pr_f (cf .f32 r19))), (u4 17), (Iv ((k : Int) + 1))]) rfl rfl (does_move (u := (Iv ((k : Int) + 1))) (ev rfl)) rfl ?_
      refine wpList_nil ?_
      refine ⟨k + 1, ⟨fun t => (([(.slice p_xs L_xs.length q_xs), (.func (.func f_f) s_f c_f), Ud, Ud, (u4 4), (Iv (k : Int)), (.slice p_xs L_xs.length q_xs), (Iv (L_xs.length : Int)), (Iv ((k : Int) + 1)), (Bo (icmp .lss (k : Int) (L_xs.length : Int))), (Iv (k : Int)), (.func (.func f_f) s_f c_f), (.slice p_xs L_xs.length q_xs), (Iv (k : Int)), (Pt b15 o16), (Fl r19), (Bo (pr_f (cf .f32 r19))), (u4 17), (Iv ((k : Int) + 1))] : List Value)[t]?).getD undef, ?_, (Ext.gr E6 E21), ?_⟩, ?_⟩
      · first | rfl | (simp only [Nat.cast_add, Nat.cast_one, Int.natCast_add, Int.natCast_one]; rfl)
      · exact ⟨by omega, NoneTo.step hno (by assumption) (by simp_all)⟩
      · omega
    have c11' := c11
    (try simp only [icmp, Bool.and_eq_true, Bool.or_eq_true, Bool.and_eq_false_iff, Bool.or_eq_false_iff, Bool.not_eq_true', Bool.not_eq_false', decide_eq_true_eq, decide_eq_false_iff_not, beq_iff_eq, bne_iff_ne, beq_eq_false_iff_ne, bne_eq_false_iff_eq] at c11')
    refine wp_exit ?_
    refine hK2 _ _ ?_
    refine wp_seq_k fun K27 hK27 => ?_
    refine wp_region_lit ?_
    refine q_is (l' := [(.slice p_xs L_xs.length q_xs), (.func (.func f_f) s_f c_f), Ud, Ud, (Iv (-1)), (u4 5), (.slice p_xs L_xs.length q_xs), (Iv (L_xs.length : Int)), (Iv (k : Int)), (Bo (icmp .lss (k : Int) (L_xs.length : Int))), (u4 10), (u4 11), (u4 12), (u4 13), (u4 14), (u4 15), (u4 16), (u4 17), (u4 18)]) rfl rfl (does_assign (u := (Iv (-1))) (ev rfl)) rfl ?_
    refine wpList_nil (hK27 _ _ ?_)
    refine wp_ret ?_
    refine ret_val (v := (Iv (-1))) (res_T rfl (slot rfl)) X8 ?_
    have x28 : (findI pr_f L_xs : Int) = (-1) := by first | exact findI_at hno (by assumption) (by simp_all) | exact findI_none hno (by omega)
    exact (by first | rfl | rw [x28])

/- slices.ContainsFunc[[]float32,float32] -/
theorem c_slices_ContainsFunc_float32_float32 (xs : Value) (L_xs : List Nat) (f : Value) (pr_f : Nat → Bool) (w : World) (hv_xs : Sl RF 1 w xs L_xs) (hv_f : TellsF Try.prog f w pr_f) : Gives Try.prog 108 #[xs, f] w (fun v w' => v = (Bo (L_xs.any pr_f))) := by
  have hlen_xs := Sl.len hv_xs; obtain ⟨p_xs, q_xs, rfl⟩ := Sl.shape hv_xs
  obtain ⟨f_f, s_f, c_f, rfl, hcal_f, hg_f⟩ := hv_f
  refine enter [(.slice p_xs L_xs.length q_xs), (.func (.func f_f) s_f c_f), Ud, Ud, Ud, Ud, Ud, Ud, Ud] Try.func108 rfl Try.ntmps108 rfl ?_
  refine wp_seq_k fun K1 hK1 => ?_
  refine wp_region_lit ?_
  refine q_is (l' := [(.slice p_xs L_xs.length q_xs), (.func (.func f_f) s_f c_f), Ud, Ud, (Bo false), Ud, Ud, Ud, Ud]) rfl rfl (does_assign (u := (Bo false)) (ev rfl)) rfl ?_
  refine wpList_nil (hK1 _ _ ?_)
  refine wp_seq_k fun K2 hK2 => ?_
  refine wp_region_lit ?_
  refine q_is (l' := [(.slice p_xs L_xs.length q_xs), (.func (.func f_f) s_f c_f), Ud, Ud, (Bo false), (.slice p_xs L_xs.length q_xs), Ud, Ud, Ud]) rfl rfl (does_move (u := (.slice p_xs L_xs.length q_xs)) (ev rfl)) rfl ?_
  refine q_is (l' := [(.slice p_xs L_xs.length q_xs), (.func (.func f_f) s_f c_f), Ud, Ud, (Bo false), (.slice p_xs L_xs.length q_xs), (.func (.func f_f) s_f c_f), Ud, Ud]) rfl rfl (does_move (u := (.func (.func f_f) s_f c_f)) (ev rfl)) rfl ?_
  refine seqd rfl rfl (does_call (args := #[(.slice p_xs L_xs.length q_xs), (.func (.func f_f) s_f c_f)]) cal115 (evs rfl) (c_slices_IndexFunc_float32_float32 (.slice p_xs L_xs.length q_xs) L_xs (.func (.func f_f) s_f c_f) pr_f _ hv_xs ⟨_, _, _, rfl, hcal_f, fun r u hu' => hg_f r u (Ext.gr (Ext.refl w) hu')⟩)) ?_; rintro _ w4 ⟨E3, rfl⟩
  have X5 := Ext.gr (Ext.refl w) E3
  show wpList _ _ _ _ (fr [(.slice p_xs L_xs.length q_xs), (.func (.func f_f) s_f c_f), Ud, Ud, (Bo false), (.slice p_xs L_xs.length q_xs), (.func (.func f_f) s_f c_f), (Iv (findI pr_f L_xs)), Ud]) _
  refine q_is (l' := [(.slice p_xs L_xs.length q_xs), (.func (.func f_f) s_f c_f), Ud, Ud, (Bo false), (.slice p_xs L_xs.length q_xs), (.func (.func f_f) s_f c_f), (Iv (findI pr_f L_xs)), (Bo (icmp .geq (findI pr_f L_xs) 0))]) rfl rfl (does_icmp (p := findI pr_f L_xs) (q := 0) (.inr (.inr (.inr (.inr (.inr rfl))))) (ev rfl) (ev rfl)) rfl ?_
  refine q_is (l' := [(.slice p_xs L_xs.length q_xs), (.func (.func f_f) s_f c_f), Ud, Ud, (Bo (icmp .geq (findI pr_f L_xs) 0)), (.slice p_xs L_xs.length q_xs), (.func (.func f_f) s_f c_f), (Iv (findI pr_f L_xs)), (Bo (icmp .geq (findI pr_f L_xs) 0))]) rfl rfl (does_assign (u := (Bo (icmp .geq (findI pr_f L_xs) 0))) (ev rfl)) rfl ?_
  refine wpList_nil (hK2 _ _ ?_)
  refine wp_ret ?_
  refine ret_val (v := (Bo (icmp .geq (findI pr_f L_xs) 0))) (res_T rfl (slot rfl)) X5 ?_
  have x6 : (L_xs.any pr_f) = (icmp .geq (findI pr_f L_xs) 0) := by first | with_reducible rfl | (simp only [findI_any]; done) | (simp [findI_any]; done) | rfl
  exact (by first | rfl | rw [x6])

/- impl.IsFinite -/
theorem c_impl_IsFinite (x : Nat) (w : World) : Gives Try.prog 104 #[(Fl x)] w (fun v w' => v = (Bo (finF (cf .f32 x)))) := by
  refine enter [(Fl x), Ud, Ud, Ud, Ud, Ud, Ud] Try.func104 rfl Try.ntmps104 rfl ?_
  refine wp_seq_k fun K1 hK1 => ?_
  refine wp_region_lit ?_
  refine q_is (l' := [(Fl x), Ud, (Bo false), Ud, Ud, Ud, Ud]) rfl rfl (does_assign (u := (Bo false)) (ev rfl)) rfl ?_
  refine wpList_nil (hK1 _ _ ?_)
  refine wp_seq_k fun K2 hK2 => ?_
  refine wp_region_lit ?_
  refine q_is (l' := [(Fl x), Ud, (Bo false), (Fl x), Ud, Ud, Ud]) rfl rfl (does_move (u := (Fl x)) (ev rfl)) rfl ?_
  refine q_is (l' := [(Fl x), Ud, (Bo false), (Fl x), (Fl x), Ud, Ud]) rfl rfl (does_move (u := (Fl x)) (ev rfl)) rfl ?_
  refine seqd rfl rfl (does_float (.inr (.inl rfl)) (ev rfl) (ev rfl)) ?_; rintro _ w6 ⟨r3, rfl, h4, E5⟩
  have X7 := Ext.gr (Ext.refl w) E5
  show wpList _ _ _ _ (fr [(Fl x), Ud, (Bo false), (Fl x), (Fl x), (Fl r3), Ud]) _
  refine q_is (l' := [(Fl x), Ud, (Bo false), (Fl x), (Fl x), (Fl r3), (Bo (fcmp .eql (ford .f32 (cf .f32 r3) (cf .f32 0))))]) rfl rfl (does_fcmp (.inl rfl) (ev rfl) (ev rfl)) rfl ?_
  refine q_is (l' := [(Fl x), Ud, (Bo (fcmp .eql (ford .f32 (cf .f32 r3) (cf .f32 0)))), (Fl x), (Fl x), (Fl r3), (Bo (fcmp .eql (ford .f32 (cf .f32 r3) (cf .f32 0))))]) rfl rfl (does_assign (u := (Bo (fcmp .eql (ford .f32 (cf .f32 r3) (cf .f32 0))))) (ev rfl)) rfl ?_
  refine wpList_nil (hK2 _ _ ?_)
  refine wp_ret ?_
  refine ret_val (v := (Bo (fcmp .eql (ford .f32 (cf .f32 r3) (cf .f32 0))))) (res_T rfl (slot rfl)) X7 ?_
  have x8 : (finF (cf .f32 x)) = (fcmp .eql (ford .f32 (cf .f32 r3) (cf .f32 0))) := by first | with_reducible rfl | (simp only [finF, h4]; done) | (simp [finF, h4]; done) | rfl
  exact (by first | rfl | rw [x8])

/- impl.finite$1 -/
theorem c_impl_finite_1 (x : Nat) (w : World) : Gives Try.prog 110 #[(Fl x)] w (fun v w' => v = (Bo (!finF (cf .f32 x)))) := by
  refine enter [(Fl x), Ud, Ud, Ud, Ud, Ud] Try.func110 rfl Try.ntmps110 rfl ?_
  refine wp_seq_k fun K1 hK1 => ?_
  refine wp_region_lit ?_
  refine q_is (l' := [(Fl x), Ud, (Bo false), Ud, Ud, Ud]) rfl rfl (does_assign (u := (Bo false)) (ev rfl)) rfl ?_
  refine wpList_nil (hK1 _ _ ?_)
  refine wp_seq_k fun K2 hK2 => ?_
  refine wp_region_lit ?_
  refine q_is (l' := [(Fl x), Ud, (Bo false), (Fl x), Ud, Ud]) rfl rfl (does_move (u := (Fl x)) (ev rfl)) rfl ?_
  refine seqd rfl rfl (does_call (args := #[(Fl x)]) cal104 (evs rfl) (c_impl_IsFinite x _)) ?_; rintro _ w4 ⟨E3, rfl⟩
  have X5 := Ext.gr (Ext.refl w) E3
  show wpList _ _ _ _ (fr [(Fl x), Ud, (Bo false), (Fl x), (Bo (finF (cf .f32 x))), Ud]) _
  refine q_is (l' := [(Fl x), Ud, (Bo false), (Fl x), (Bo (finF (cf .f32 x))), (Bo (!(finF (cf .f32 x))))]) rfl rfl (does_not (ev rfl)) rfl ?_
  refine q_is (l' := [(Fl x), Ud, (Bo (!(finF (cf .f32 x)))), (Fl x), (Bo (finF (cf .f32 x))), (Bo (!(finF (cf .f32 x))))]) rfl rfl (does_assign (u := (Bo (!(finF (cf .f32 x))))) (ev rfl)) rfl ?_
  refine wpList_nil (hK2 _ _ ?_)
  refine wp_ret ?_
  refine ret_val (v := (Bo (!(finF (cf .f32 x))))) (res_T rfl (slot rfl)) X5 ?_
  have x6 : (!finF (cf .f32 x)) = (!(finF (cf .f32 x))) := by first | with_reducible rfl | (simp only []; done) | (simp []; done) | rfl
  exact (by first | rfl | rw [x6])

/- impl.finite -/
theorem c_impl_finite (xs : Value) (L_xs : List Nat) (w : World) (hv_xs : Sl RF 1 w xs L_xs) : Gives Try.prog 96 #[xs] w (fun v w' => v = (Bo (!L_xs.any (fun x => !finF x)))) := by
  have hlen_xs := Sl.len hv_xs; obtain ⟨p_xs, q_xs, rfl⟩ := Sl.shape hv_xs
  refine enter [(.slice p_xs L_xs.length q_xs), Ud, Ud, Ud, Ud, Ud] Try.func96 rfl Try.ntmps96 rfl ?_
  refine wp_seq_k fun K1 hK1 => ?_
  refine wp_region_lit ?_
  refine q_is (l' := [(.slice p_xs L_xs.length q_xs), Ud, (Bo false), Ud, Ud, Ud]) rfl rfl (does_assign (u := (Bo false)) (ev rfl)) rfl ?_
  refine wpList_nil (hK1 _ _ ?_)
  refine wp_seq_k fun K2 hK2 => ?_
  refine wp_region_lit ?_
  refine q_is (l' := [(.slice p_xs L_xs.length q_xs), Ud, (Bo false), (.slice p_xs L_xs.length q_xs), Ud, Ud]) rfl rfl (does_move (u := (.slice p_xs L_xs.length q_xs)) (ev rfl)) rfl ?_
  refine seqd rfl rfl (does_call (args := #[(.slice p_xs L_xs.length q_xs), (.func (.func 110) #[] #[])]) cal108 (evs rfl) (c_slices_ContainsFunc_float32_float32 (.slice p_xs L_xs.length q_xs) L_xs (.func (.func 110) #[] #[]) (fun x => !finF x) _ hv_xs ⟨110, #[], #[], rfl, cal110, fun r u hu' => by simpa using (c_impl_finite_1 r u)⟩)) ?_; rintro _ w4 ⟨E3, rfl⟩
  have X5 := Ext.gr (Ext.refl w) E3
  show wpList _ _ _ _ (fr [(.slice p_xs L_xs.length q_xs), Ud, (Bo false), (.slice p_xs L_xs.length q_xs), (Bo (L_xs.any (fun x => !finF x))), Ud]) _
  refine q_is (l' := [(.slice p_xs L_xs.length q_xs), Ud, (Bo false), (.slice p_xs L_xs.length q_xs), (Bo (L_xs.any (fun x => !finF x))), (Bo (!(L_xs.any (fun x => !finF x))))]) rfl rfl (does_not (ev rfl)) rfl ?_
  refine q_is (l' := [(.slice p_xs L_xs.length q_xs), Ud, (Bo (!(L_xs.any (fun x => !finF x)))), (.slice p_xs L_xs.length q_xs), (Bo (L_xs.any (fun x => !finF x))), (Bo (!(L_xs.any (fun x => !finF x))))]) rfl rfl (does_assign (u := (Bo (!(L_xs.any (fun x => !finF x))))) (ev rfl)) rfl ?_
  refine wpList_nil (hK2 _ _ ?_)
  refine wp_ret ?_
  refine ret_val (v := (Bo (!(L_xs.any (fun x => !finF x))))) (res_T rfl (slot rfl)) X5 ?_
  have x6 : (!L_xs.any (fun x => !finF x)) = (!(L_xs.any (fun x => !finF x))) := by first | with_reducible rfl | (simp only []; done) | (simp []; done) | rfl
  exact (by first | rfl | rw [x6])

/- impl.finiteVector -/
theorem c_impl_finiteVector (v : List Value) (A_v : V3) (w : World) (hv_v : RV3 w A_v v) : Gives Try.prog 57 #[(.agg v.toArray)] w (fun v w' => v = (Bo (finV A_v))) := by
  obtain ⟨r1, r3, r5, rfl, h2, h4, h6⟩ := hv_v
  refine enter [(.agg #[(Fl r1), (Fl r3), (Fl r5)]), Ud, Ud, Ud, Ud, Ud, Ud, Ud, Ud, Ud, Ud] Try.func57 rfl Try.ntmps57 rfl ?_
  refine wp_seq_k fun K7 hK7 => ?_
  refine wp_region_lit ?_
  refine seqd rfl rfl (does_box (u := (.agg #[(Fl r1), (Fl r3), (Fl r5)])) (ev rfl)) ?_; rintro _ w12 ⟨b8, rfl, hb9, hB10, E11⟩
  have g13 : w.heap.size ≤ b8 := Nat.le_trans (Below.size (Ext.refl w)) hb9
  change Blk _ _ [(Fl r1), (Fl r3), (Fl r5)] at hB10
  have X14 := Ext.gr (Ext.refl w) E11
  show wpList _ _ _ _ (fr [(.agg #[(Fl r1), (Fl r3), (Fl r5)]), (Pt b8 0), Ud, Ud, Ud, Ud, Ud, Ud, Ud, Ud, Ud]) _
  refine q_is (l' := [(.agg #[(Fl r1), (Fl r3), (Fl r5)]), (Pt b8 0), (Bo false), Ud, Ud, Ud, Ud, Ud, Ud, Ud, Ud]) rfl rfl (does_assign (u := (Bo false)) (ev rfl)) rfl ?_
  refine wpList_nil (hK7 _ _ ?_)
  refine wp_seq_k fun K15 hK15 => ?_
  refine wp_region_lit ?_
  refine q_is (l' := [(.agg #[(Fl r1), (Fl r3), (Fl r5)]), (Pt b8 0), (Bo false), (Pt b8 0), Ud, Ud, Ud, Ud, Ud, Ud, Ud]) rfl rfl (does_fieldAddr (ev rfl) fa26_0) rfl ?_
  refine q_is (l' := [(.agg #[(Fl r1), (Fl r3), (Fl r5)]), (Pt b8 0), (Bo false), (Pt b8 0), (Fl r1), Ud, Ud, Ud, Ud, Ud, Ud]) rfl rfl (does_load (u := (Fl r1)) (ev rfl) Try.isAgg24 (Cells.at (Blk.cells hB10) 0 rfl)) rfl ?_
  refine q_is (l' := [(.agg #[(Fl r1), (Fl r3), (Fl r5)]), (Pt b8 0), (Bo false), (Pt b8 0), (Fl r1), (Pt b8 1), Ud, Ud, Ud, Ud, Ud]) rfl rfl (does_fieldAddr (ev rfl) fa26_1) rfl ?_
  refine q_is (l' := [(.agg #[(Fl r1), (Fl r3), (Fl r5)]), (Pt b8 0), (Bo false), (Pt b8 0), (Fl r1), (Pt b8 1), (Fl r3), Ud, Ud, Ud, Ud]) rfl rfl (does_load (u := (Fl r3)) (ev rfl) Try.isAgg24 (Cells.at (Blk.cells hB10) 1 rfl)) rfl ?_
  refine q_is (l' := [(.agg #[(Fl r1), (Fl r3), (Fl r5)]), (Pt b8 0), (Bo false), (Pt b8 0), (Fl r1), (Pt b8 1), (Fl r3), (Pt b8 2), Ud, Ud, Ud]) rfl rfl (does_fieldAddr (ev rfl) fa26_2) rfl ?_
  refine q_is (l' := [(.agg #[(Fl r1), (Fl r3), (Fl r5)]), (Pt b8 0), (Bo false), (Pt b8 0), (Fl r1), (Pt b8 1), (Fl r3), (Pt b8 2), (Fl r5), Ud, Ud]) rfl rfl (does_load (u := (Fl r5)) (ev rfl) Try.isAgg24 (Cells.at (Blk.cells hB10) 2 rfl)) rfl ?_
  refine seqd rfl rfl (does_buildSlice (e := 24) (parts' := [(0, (Fl r1)), (1, (Fl r3)), (2, (Fl r5))]) (cells := [(Fl r1), (Fl r3), (Fl r5)]) (evp rfl) (fun _ => by kernel_rfl)) ?_; rintro _ w20 ⟨b16, rfl, hb17, hB18, E19⟩
  have n21 : b8 < b16 := Nat.lt_of_lt_of_le (Blk.lt hB10) hb17
  have g22 : w.heap.size ≤ b16 := Nat.le_trans (Below.size X14) hb17
  have X23 := Ext.gr X14 E19
  show wpList _ _ _ _ (fr [(.agg #[(Fl r1), (Fl r3), (Fl r5)]), (Pt b8 0), (Bo false), (Pt b8 0), (Fl r1), (Pt b8 1), (Fl r3), (Pt b8 2), (Fl r5), (.slice (some ⟨b16, 0, none⟩) 3 3), Ud]) _
  refine seqd rfl rfl (does_call (args := #[(.slice (some ⟨b16, 0, none⟩) 3 3)]) cal96 (evs rfl) (c_impl_finite (.slice (some ⟨b16, 0, none⟩) 3 3) [(cf .f32 r1), (cf .f32 r3), (cf .f32 r5)] _ (Sl_lit3 hB18 ⟨_, rfl, rfl⟩ ⟨_, rfl, rfl⟩ ⟨_, rfl, rfl⟩))) ?_; rintro _ w25 ⟨E24, rfl⟩
  have X26 := Ext.gr X23 E24
  show wpList _ _ _ _ (fr [(.agg #[(Fl r1), (Fl r3), (Fl r5)]), (Pt b8 0), (Bo false), (Pt b8 0), (Fl r1), (Pt b8 1), (Fl r3), (Pt b8 2), (Fl r5), (.slice (some ⟨b16, 0, none⟩) 3 3), (Bo (!([(cf .f32 r1), (cf .f32 r3), (cf .f32 r5)]).any (fun x => !finF x)))]) _
  refine q_is (l' := [(.agg #[(Fl r1), (Fl r3), (Fl r5)]), (Pt b8 0), (Bo (!([(cf .f32 r1), (cf .f32 r3), (cf .f32 r5)]).any (fun x => !finF x))), (Pt b8 0), (Fl r1), (Pt b8 1), (Fl r3), (Pt b8 2), (Fl r5), (.slice (some ⟨b16, 0, none⟩) 3 3), (Bo (!([(cf .f32 r1), (cf .f32 r3), (cf .f32 r5)]).any (fun x => !finF x)))]) rfl rfl (does_assign (u := (Bo (!([(cf .f32 r1), (cf .f32 r3), (cf .f32 r5)]).any (fun x => !finF x)))) (ev rfl)) rfl ?_
  refine wpList_nil (hK15 _ _ ?_)
  refine wp_ret ?_
  refine ret_val (v := (Bo (!([(cf .f32 r1), (cf .f32 r3), (cf .f32 r5)]).any (fun x => !finF x)))) (res_T rfl (slot rfl)) X26 ?_
  have x27 : (finV A_v) = (!([(cf .f32 r1), (cf .f32 r3), (cf .f32 r5)]).any (fun x => !finF x)) := by first | with_reducible rfl | (simp only [finV, any3_finF, h2, h4, h6]; done) | (simp [finV, any3_finF, h2, h4, h6]; done) | rfl
  exact (by first | rfl | rw [x27])

/- impl.RootNumber -/
theorem c_impl_RootNumber (x : Nat) (w : World) : Gives Try.prog 99 #[(Fl x)] w (fun v w' => ∃ r_1 : Nat, v = (Fl r_1) ∧ cf .f32 r_1 = rootF (cf .f32 x)) := by
  refine enter [(Fl x), Ud, Ud, Ud, Ud, Ud, Ud] Try.func99 rfl Try.ntmps99 rfl ?_
  refine wp_seq_k fun K1 hK1 => ?_
  refine wp_region_lit ?_
  refine q_is (l' := [(Fl x), Ud, (Fl 0), Ud, Ud, Ud, Ud]) rfl rfl (does_assign (u := (Fl 0)) (ev rfl)) rfl ?_
  refine wpList_nil (hK1 _ _ ?_)
  refine wp_seq_k fun K2 hK2 => ?_
  refine wp_region_lit ?_
  refine q_is (l' := [(Fl x), Ud, (Fl 0), (Fl x), Ud, Ud, Ud]) rfl rfl (does_move (u := (Fl x)) (ev rfl)) rfl ?_
  refine seqd rfl rfl (does_widen Try.underlying24 Try.underlying80 (ev rfl)) ?_; rintro _ w6 ⟨r3, rfl, h4, E5⟩
  have X7 := Ext.gr (Ext.refl w) E5
  show wpList _ _ _ _ (fr [(Fl x), Ud, (Fl 0), (Fl x), (Fd r3), Ud, Ud]) _
  refine seqd rfl rfl (does_call (args := #[(Fd r3)]) cal113 (evs rfl) (c_math_Sqrt r3 _)) ?_; rintro _ w9 ⟨E8, ⟨r10, rfl, h11⟩⟩
  have X12 := Ext.gr X7 E8
  show wpList _ _ _ _ (fr [(Fl x), Ud, (Fl 0), (Fl x), (Fd r3), (Fd r10), Ud]) _
  refine seqd rfl rfl (does_narrow Try.underlying80 Try.underlying24 (ev rfl) (by first | assumption | (simp only [h4, h11]; exact nov_sqrt _))) ?_; rintro _ w16 ⟨r13, rfl, h14, E15⟩
  have X17 := Ext.gr X12 E15
  show wpList _ _ _ _ (fr [(Fl x), Ud, (Fl 0), (Fl x), (Fd r3), (Fd r10), (Fl r13)]) _
  refine q_is (l' := [(Fl x), Ud, (Fl r13), (Fl x), (Fd r3), (Fd r10), (Fl r13)]) rfl rfl (does_assign (u := (Fl r13)) (ev rfl)) rfl ?_
  refine wpList_nil (hK2 _ _ ?_)
  refine wp_ret ?_
  refine ret_val (v := (Fl r13)) (res_T rfl (slot rfl)) X17 ?_
  have x18 : cf .f32 r13 = rootF (cf .f32 x) := by first | with_reducible rfl | (simp only [rootF, h4, h11, h14]; done) | (simp [rootF, h4, h11, h14]; done) | rfl
  exact ⟨r13, rfl, x18⟩

/- impl.InnerOf -/
theorem c_impl_InnerOf (a : List Value) (A_a : V3) (b : List Value) (A_b : V3) (w : World) (hv_a : RV3 w A_a a) (hv_b : RV3 w A_b b) : Gives Try.prog 100 #[(.agg a.toArray), (.agg b.toArray)] w (fun v w' => ∃ r_1 : Nat, v = (Fl r_1) ∧ cf .f32 r_1 = innerF A_a A_b) := by
  obtain ⟨r1, r3, r5, rfl, h2, h4, h6⟩ := hv_a
  obtain ⟨r7, r9, r11, rfl, h8, h10, h12⟩ := hv_b
  refine enter [(.agg #[(Fl r1), (Fl r3), (Fl r5)]), (.agg #[(Fl r7), (Fl r9), (Fl r11)]), Ud, Ud, Ud, Ud, Ud, Ud, Ud, Ud, Ud, Ud, Ud, Ud, Ud, Ud, Ud, Ud, Ud, Ud, Ud, Ud] Try.func100 rfl Try.ntmps100 rfl ?_
  refine wp_seq_k fun K13 hK13 => ?_
  refine wp_region_lit ?_
  refine seqd rfl rfl (does_box (u := (.agg #[(Fl r1), (Fl r3), (Fl r5)])) (ev rfl)) ?_; rintro _ w18 ⟨b14, rfl, hb15, hB16, E17⟩
  have g19 : w.heap.size ≤ b14 := Nat.le_trans (Below.size (Ext.refl w)) hb15
  change Blk _ _ [(Fl r1), (Fl r3), (Fl r5)] at hB16
  have X20 := Ext.gr (Ext.refl w) E17
  show wpList _ _ _ _ (fr [(.agg #[(Fl r1), (Fl r3), (Fl r5)]), (.agg #[(Fl r7), (Fl r9), (Fl r11)]), (Pt b14 0), Ud, Ud, Ud, Ud, Ud, Ud, Ud, Ud, Ud, Ud, Ud, Ud, Ud, Ud, Ud, Ud, Ud, Ud, Ud]) _
  refine seqd rfl rfl (does_box (u := (.agg #[(Fl r7), (Fl r9), (Fl r11)])) (ev rfl)) ?_; rintro _ w25 ⟨b21, rfl, hb22, hB23, E24⟩
  have n26 : b14 < b21 := Nat.lt_of_lt_of_le (Blk.lt hB16) hb22
  have g27 : w.heap.size ≤ b21 := Nat.le_trans (Below.size X20) hb22
  change Blk _ _ [(Fl r7), (Fl r9), (Fl r11)] at hB23
  have X28 := Ext.gr X20 E24
  show wpList _ _ _ _ (fr [(.agg #[(Fl r1), (Fl r3), (Fl r5)]), (.agg #[(Fl r7), (Fl r9), (Fl r11)]), (Pt b14 0), (Pt b21 0), Ud, Ud, Ud, Ud, Ud, Ud, Ud, Ud, Ud, Ud, Ud, Ud, Ud, Ud, Ud, Ud, Ud, Ud]) _
  refine q_is (l' := [(.agg #[(Fl r1), (Fl r3), (Fl r5)]), (.agg #[(Fl r7), (Fl r9), (Fl r11)]), (Pt b14 0), (Pt b21 0), (Fl 0), Ud, Ud, Ud, Ud, Ud, Ud, Ud, Ud, Ud, Ud, Ud, Ud, Ud, Ud, Ud, Ud, Ud]) rfl rfl (does_assign (u := (Fl 0)) (ev rfl)) rfl ?_
  refine wpList_nil (hK13 _ _ ?_)
  refine wp_seq_k fun K29 hK29 => ?_
  refine wp_region_lit ?_
  refine q_is (l' := [(.agg #[(Fl r1), (Fl r3), (Fl r5)]), (.agg #[(Fl r7), (Fl r9), (Fl r11)]), (Pt b14 0), (Pt b21 0), (Fl 0), (Pt b14 0), Ud, Ud, Ud, Ud, Ud, Ud, Ud, Ud, Ud, Ud, Ud, Ud, Ud, Ud, Ud, Ud]) rfl rfl (does_fieldAddr (ev rfl) fa26_0) rfl ?_
  refine q_is (l' := [(.agg #[(Fl r1), (Fl r3), (Fl r5)]), (.agg #[(Fl r7), (Fl r9), (Fl r11)]), (Pt b14 0), (Pt b21 0), (Fl 0), (Pt b14 0), (Fl r1), Ud, Ud, Ud, Ud, Ud, Ud, Ud, Ud, Ud, Ud, Ud, Ud, Ud, Ud, Ud]) rfl rfl (does_load (u := (Fl r1)) (ev rfl) Try.isAgg24 (Cells.at (Blk.cells (hB16.ext E24)) 0 rfl)) rfl ?_
  refine q_is (l' := [(.agg #[(Fl r1), (Fl r3), (Fl r5)]), (.agg #[(Fl r7), (Fl r9), (Fl r11)]), (Pt b14 0), (Pt b21 0), (Fl 0), (Pt b14 0), (Fl r1), (Pt b21 0), Ud, Ud, Ud, Ud, Ud, Ud, Ud, Ud, Ud, Ud, Ud, Ud, Ud, Ud]) rfl rfl (does_fieldAddr (ev rfl) fa26_0) rfl ?_
  refine q_is (l' := [(.agg #[(Fl r1), (Fl r3), (Fl r5)]), (.agg #[(Fl r7), (Fl r9), (Fl r11)]), (Pt b14 0), (Pt b21 0), (Fl 0), (Pt b14 0), (Fl r1), (Pt b21 0), (Fl r7), Ud, Ud, Ud, Ud, Ud, Ud, Ud, Ud, Ud, Ud, Ud, Ud, Ud]) rfl rfl (does_load (u := (Fl r7)) (ev rfl) Try.isAgg24 (Cells.at (Blk.cells hB23) 0 rfl)) rfl ?_
  refine seqd rfl rfl (does_float (.inr (.inr (.inl rfl))) (ev rfl) (ev rfl)) ?_; rintro _ w33 ⟨r30, rfl, h31, E32⟩
  have X34 := Ext.gr X28 E32
  show wpList _ _ _ _ (fr [(.agg #[(Fl r1), (Fl r3), (Fl r5)]), (.agg #[(Fl r7), (Fl r9), (Fl r11)]), (Pt b14 0), (Pt b21 0), (Fl 0), (Pt b14 0), (Fl r1), (Pt b21 0), (Fl r7), (Fl r30), Ud, Ud, Ud, Ud, Ud, Ud, Ud, Ud, Ud, Ud, Ud, Ud]) _
  refine q_is (l' := [(.agg #[(Fl r1), (Fl r3), (Fl r5)]), (.agg #[(Fl r7), (Fl r9), (Fl r11)]), (Pt b14 0), (Pt b21 0), (Fl 0), (Pt b14 0), (Fl r1), (Pt b21 0), (Fl r7), (Fl r30), (Pt b14 1), Ud, Ud, Ud, Ud, Ud, Ud, Ud, Ud, Ud, Ud, Ud]) rfl rfl (does_fieldAddr (ev rfl) fa26_1) rfl ?_
  refine q_is (l' := [(.agg #[(Fl r1), (Fl r3), (Fl r5)]), (.agg #[(Fl r7), (Fl r9), (Fl r11)]), (Pt b14 0), (Pt b21 0), (Fl 0), (Pt b14 0), (Fl r1), (Pt b21 0), (Fl r7), (Fl r30), (Pt b14 1), (Fl r3), Ud, Ud, Ud, Ud, Ud, Ud, Ud, Ud, Ud, Ud]) rfl rfl (does_load (u := (Fl r3)) (ev rfl) Try.isAgg24 (Cells.at (Blk.cells ((hB16.ext E24).ext E32)) 1 rfl)) rfl ?_
  refine q_is (l' := [(.agg #[(Fl r1), (Fl r3), (Fl r5)]), (.agg #[(Fl r7), (Fl r9), (Fl r11)]), (Pt b14 0), (Pt b21 0), (Fl 0), (Pt b14 0), (Fl r1), (Pt b21 0), (Fl r7), (Fl r30), (Pt b14 1), (Fl r3), (Pt b21 1), Ud, Ud, Ud, Ud, Ud, Ud, Ud, Ud, Ud]) rfl rfl (does_fieldAddr (ev rfl) fa26_1) rfl ?_
  refine q_is (l' := [(.agg #[(Fl r1), (Fl r3), (Fl r5)]), (.agg #[(Fl r7), (Fl r9), (Fl r11)]), (Pt b14 0), (Pt b21 0), (Fl 0), (Pt b14 0), (Fl r1), (Pt b21 0), (Fl r7), (Fl r30), (Pt b14 1), (Fl r3), (Pt b21 1), (Fl r9), Ud, Ud, Ud, Ud, Ud, Ud, Ud, Ud]) rfl rfl (does_load (u := (Fl r9)) (ev rfl) Try.isAgg24 (Cells.at (Blk.cells (hB23.ext E32)) 1 rfl)) rfl ?_
  refine seqd rfl rfl (does_float (.inr (.inr (.inl rfl))) (ev rfl) (ev rfl)) ?_; rintro _ w38 ⟨r35, rfl, h36, E37⟩
  have X39 := Ext.gr X34 E37
  show wpList _ _ _ _ (fr [(.agg #[(Fl r1), (Fl r3), (Fl r5)]), (.agg #[(Fl r7), (Fl r9), (Fl r11)]), (Pt b14 0), (Pt b21 0), (Fl 0), (Pt b14 0), (Fl r1), (Pt b21 0), (Fl r7), (Fl r30), (Pt b14 1), (Fl r3), (Pt b21 1), (Fl r9), (Fl r35), Ud, Ud, Ud, Ud, Ud, Ud, Ud]) _
  refine seqd rfl rfl (does_float (.inl rfl) (ev rfl) (ev rfl)) ?_; rintro _ w43 ⟨r40, rfl, h41, E42⟩
  have X44 := Ext.gr X39 E42
  show wpList _ _ _ _ (fr [(.agg #[(Fl r1), (Fl r3), (Fl r5)]), (.agg #[(Fl r7), (Fl r9), (Fl r11)]), (Pt b14 0), (Pt b21 0), (Fl 0), (Pt b14 0), (Fl r1), (Pt b21 0), (Fl r7), (Fl r30), (Pt b14 1), (Fl r3), (Pt b21 1), (Fl r9), (Fl r35), (Fl r40), Ud, Ud, Ud, Ud, Ud, Ud]) _
  refine q_is (l' := [(.agg #[(Fl r1), (Fl r3), (Fl r5)]), (.agg #[(Fl r7), (Fl r9), (Fl r11)]), (Pt b14 0), (Pt b21 0), (Fl 0), (Pt b14 0), (Fl r1), (Pt b21 0), (Fl r7), (Fl r30), (Pt b14 1), (Fl r3), (Pt b21 1), (Fl r9), (Fl r35), (Fl r40), (Pt b14 2), Ud, Ud, Ud, Ud, Ud]) rfl rfl (does_fieldAddr (ev rfl) fa26_2) rfl ?_
  refine q_is (l' := [(.agg #[(Fl r1), (Fl r3), (Fl r5)]), (.agg #[(Fl r7), (Fl r9), (Fl r11)]), (Pt b14 0), (Pt b21 0), (Fl 0), (Pt b14 0), (Fl r1), (Pt b21 0), (Fl r7), (Fl r30), (Pt b14 1), (Fl r3), (Pt b21 1), (Fl r9), (Fl r35), (Fl r40), (Pt b14 2), (Fl r5), Ud, Ud, Ud, Ud]) rfl rfl (does_load (u := (Fl r5)) (ev rfl) Try.isAgg24 (Cells.at (Blk.cells ((((hB16.ext E24).ext E32).ext E37).ext E42)) 2 rfl)) rfl ?_
  refine q_is (l' := [(.agg #[(Fl r1), (Fl r3), (Fl r5)]), (.agg #[(Fl r7), (Fl r9), (Fl r11)]), (Pt b14 0), (Pt b21 0), (Fl 0), (Pt b14 0), (Fl r1), (Pt b21 0), (Fl r7), (Fl r30), (Pt b14 1), (Fl r3), (Pt b21 1), (Fl r9), (Fl r35), (Fl r40), (Pt b14 2), (Fl r5), (Pt b21 2), Ud, Ud, Ud]) rfl rfl (does_fieldAddr (ev rfl) fa26_2) rfl ?_
  refine q_is (l' := [(.agg #[(Fl r1), (Fl r3), (Fl r5)]), (.agg #[(Fl r7), (Fl r9), (Fl r11)]), (Pt b14 0), (Pt b21 0), (Fl 0), (Pt b14 0), (Fl r1), (Pt b21 0), (Fl r7), (Fl r30), (Pt b14 1), (Fl r3), (Pt b21 1), (Fl r9), (Fl r35), (Fl r40), (Pt b14 2), (Fl r5), (Pt b21 2), (Fl r11), Ud, Ud]) rfl rfl (does_load (u := (Fl r11)) (ev rfl) Try.isAgg24 (Cells.at (Blk.cells (((hB23.ext E32).ext E37).ext E42)) 2 rfl)) rfl ?_
  refine seqd rfl rfl (does_float (.inr (.inr (.inl rfl))) (ev rfl) (ev rfl)) ?_; rintro _ w48 ⟨r45, rfl, h46, E47⟩
  have X49 := Ext.gr X44 E47
  show wpList _ _ _ _ (fr [(.agg #[(Fl r1), (Fl r3), (Fl r5)]), (.agg #[(Fl r7), (Fl r9), (Fl r11)]), (Pt b14 0), (Pt b21 0), (Fl 0), (Pt b14 0), (Fl r1), (Pt b21 0), (Fl r7), (Fl r30), (Pt b14 1), (Fl r3), (Pt b21 1), (Fl r9), (Fl r35), (Fl r40), (Pt b14 2), (Fl r5), (Pt b21 2), (Fl r11), (Fl r45), Ud]) _
  refine seqd rfl rfl (does_float (.inl rfl) (ev rfl) (ev rfl)) ?_; rintro _ w53 ⟨r50, rfl, h51, E52⟩
  have X54 := Ext.gr X49 E52
  show wpList _ _ _ _ (fr [(.agg #[(Fl r1), (Fl r3), (Fl r5)]), (.agg #[(Fl r7), (Fl r9), (Fl r11)]), (Pt b14 0), (Pt b21 0), (Fl 0), (Pt b14 0), (Fl r1), (Pt b21 0), (Fl r7), (Fl r30), (Pt b14 1), (Fl r3), (Pt b21 1), (Fl r9), (Fl r35), (Fl r40), (Pt b14 2), (Fl r5), (Pt b21 2), (Fl r11), (Fl r45), (Fl r50)]) _
  refine q_is (l' := [(.agg #[(Fl r1), (Fl r3), (Fl r5)]), (.agg #[(Fl r7), (Fl r9), (Fl r11)]), (Pt b14 0), (Pt b21 0), (Fl r50), (Pt b14 0), (Fl r1), (Pt b21 0), (Fl r7), (Fl r30), (Pt b14 1), (Fl r3), (Pt b21 1), (Fl r9), (Fl r35), (Fl r40), (Pt b14 2), (Fl r5), (Pt b21 2), (Fl r11), (Fl r45), (Fl r50)]) rfl rfl (does_assign (u := (Fl r50)) (ev rfl)) rfl ?_
  refine wpList_nil (hK29 _ _ ?_)
  refine wp_ret ?_
  refine ret_val (v := (Fl r50)) (res_T rfl (slot rfl)) X54 ?_
  have x55 : cf .f32 r50 = innerF A_a A_b := by first | with_reducible rfl | (simp only [innerF, h2, h4, h6, h8, h10, h12, h31, h36, h41, h46, h51]; done) | (simp [innerF, h2, h4, h6, h8, h10, h12, h31, h36, h41, h46, h51]; done) | rfl
  exact ⟨r50, rfl, x55⟩

/- impl.LongOf -/
theorem c_impl_LongOf (v : List Value) (A_v : V3) (w : World) (hv_v : RV3 w A_v v) : Gives Try.prog 63 #[(.agg v.toArray)] w (fun v w' => ∃ r_1 : Nat, v = (Fl r_1) ∧ cf .f32 r_1 = longF A_v) := by
  obtain ⟨r1, r3, r5, rfl, h2, h4, h6⟩ := hv_v
  refine enter [(.agg #[(Fl r1), (Fl r3), (Fl r5)]), Ud, Ud, Ud, Ud, Ud, Ud] Try.func63 rfl Try.ntmps63 rfl ?_
  refine wp_seq_k fun K7 hK7 => ?_
  refine wp_region_lit ?_
  refine seqd rfl rfl (does_box (u := (.agg #[(Fl r1), (Fl r3), (Fl r5)])) (ev rfl)) ?_; rintro _ w12 ⟨b8, rfl, hb9, hB10, E11⟩
  have g13 : w.heap.size ≤ b8 := Nat.le_trans (Below.size (Ext.refl w)) hb9
  change Blk _ _ [(Fl r1), (Fl r3), (Fl r5)] at hB10
  have X14 := Ext.gr (Ext.refl w) E11
  show wpList _ _ _ _ (fr [(.agg #[(Fl r1), (Fl r3), (Fl r5)]), (Pt b8 0), Ud, Ud, Ud, Ud, Ud]) _
  refine q_is (l' := [(.agg #[(Fl r1), (Fl r3), (Fl r5)]), (Pt b8 0), (Fl 0), Ud, Ud, Ud, Ud]) rfl rfl (does_assign (u := (Fl 0)) (ev rfl)) rfl ?_
  refine wpList_nil (hK7 _ _ ?_)
  refine wp_seq_k fun K15 hK15 => ?_
  refine wp_region_lit ?_
  refine q_is (l' := [(.agg #[(Fl r1), (Fl r3), (Fl r5)]), (Pt b8 0), (Fl 0), (.agg #[(Fl r1), (Fl r3), (Fl r5)]), Ud, Ud, Ud]) rfl rfl (does_loadAgg (cs := [(Fl r1), (Fl r3), (Fl r5)]) (ev rfl) Try.isAgg26 Try.sizeOf26 (Blk.cells hB10) rfl) rfl ?_
  refine q_is (l' := [(.agg #[(Fl r1), (Fl r3), (Fl r5)]), (Pt b8 0), (Fl 0), (.agg #[(Fl r1), (Fl r3), (Fl r5)]), (.agg #[(Fl r1), (Fl r3), (Fl r5)]), Ud, Ud]) rfl rfl (does_loadAgg (cs := [(Fl r1), (Fl r3), (Fl r5)]) (ev rfl) Try.isAgg26 Try.sizeOf26 (Blk.cells hB10) rfl) rfl ?_
  refine seqd rfl rfl (does_call (args := #[(.agg #[(Fl r1), (Fl r3), (Fl r5)]), (.agg #[(Fl r1), (Fl r3), (Fl r5)])]) cal100 (evs rfl) (c_impl_InnerOf [(Fl r1), (Fl r3), (Fl r5)] A_v [(Fl r1), (Fl r3), (Fl r5)] A_v _ ⟨r1, r3, r5, rfl, h2, h4, h6⟩ ⟨r1, r3, r5, rfl, h2, h4, h6⟩)) ?_; rintro _ w17 ⟨E16, ⟨r18, rfl, h19⟩⟩
  have X20 := Ext.gr X14 E16
  show wpList _ _ _ _ (fr [(.agg #[(Fl r1), (Fl r3), (Fl r5)]), (Pt b8 0), (Fl 0), (.agg #[(Fl r1), (Fl r3), (Fl r5)]), (.agg #[(Fl r1), (Fl r3), (Fl r5)]), (Fl r18), Ud]) _
  refine seqd rfl rfl (does_call (args := #[(Fl r18)]) cal99 (evs rfl) (c_impl_RootNumber r18 _)) ?_; rintro _ w22 ⟨E21, ⟨r23, rfl, h24⟩⟩
  have X25 := Ext.gr X20 E21
  show wpList _ _ _ _ (fr [(.agg #[(Fl r1), (Fl r3), (Fl r5)]), (Pt b8 0), (Fl 0), (.agg #[(Fl r1), (Fl r3), (Fl r5)]), (.agg #[(Fl r1), (Fl r3), (Fl r5)]), (Fl r18), (Fl r23)]) _
  refine q_is (l' := [(.agg #[(Fl r1), (Fl r3), (Fl r5)]), (Pt b8 0), (Fl r23), (.agg #[(Fl r1), (Fl r3), (Fl r5)]), (.agg #[(Fl r1), (Fl r3), (Fl r5)]), (Fl r18), (Fl r23)]) rfl rfl (does_assign (u := (Fl r23)) (ev rfl)) rfl ?_
  refine wpList_nil (hK15 _ _ ?_)
  refine wp_ret ?_
  refine ret_val (v := (Fl r23)) (res_T rfl (slot rfl)) X25 ?_
  have x26 : cf .f32 r23 = longF A_v := by first | with_reducible rfl | (simp only [longF, h2, h4, h6, h19, h24]; done) | (simp [longF, h2, h4, h6, h19, h24]; done) | rfl
  exact ⟨r23, rfl, x26⟩

/- impl.ScaleVector -/
theorem c_impl_ScaleVector (a : List Value) (A_a : V3) (b : Nat) (w : World) (hv_a : RV3 w A_a a) : Gives Try.prog 92 #[(.agg a.toArray), (Fl b)] w (fun v w' => ∃ cs_1 : List Value, v = (.agg cs_1.toArray) ∧ RV3 w (vscale A_a (cf .f32 b)) cs_1) := by
  obtain ⟨r1, r3, r5, rfl, h2, h4, h6⟩ := hv_a
  refine enter [(.agg #[(Fl r1), (Fl r3), (Fl r5)]), (Fl b), Ud, Ud, Ud, Ud, Ud, Ud, Ud, Ud, Ud, Ud, Ud, Ud, Ud, Ud, Ud, Ud] Try.func92 rfl Try.ntmps92 rfl ?_
  refine wp_seq_k fun K7 hK7 => ?_
  refine wp_region_lit ?_
  refine seqd rfl rfl (does_box (u := (.agg #[(Fl r1), (Fl r3), (Fl r5)])) (ev rfl)) ?_; rintro _ w12 ⟨b8, rfl, hb9, hB10, E11⟩
  have g13 : w.heap.size ≤ b8 := Nat.le_trans (Below.size (Ext.refl w)) hb9
  change Blk _ _ [(Fl r1), (Fl r3), (Fl r5)] at hB10
  have X14 := Ext.gr (Ext.refl w) E11
  show wpList _ _ _ _ (fr [(.agg #[(Fl r1), (Fl r3), (Fl r5)]), (Fl b), (Pt b8 0), Ud, Ud, Ud, Ud, Ud, Ud, Ud, Ud, Ud, Ud, Ud, Ud, Ud, Ud, Ud]) _
  refine seqd rfl rfl (does_alloc z26) ?_; rintro _ w19 ⟨b15, rfl, hb16, hB17, E18⟩
  have n20 : b8 < b15 := Nat.lt_of_lt_of_le (Blk.lt hB10) hb16
  have g21 : w.heap.size ≤ b15 := Nat.le_trans (Below.size X14) hb16
  change Blk _ _ [(Fl 0), (Fl 0), (Fl 0)] at hB17
  have X22 := Ext.gr X14 E18
  show wpList _ _ _ _ (fr [(.agg #[(Fl r1), (Fl r3), (Fl r5)]), (Fl b), (Pt b8 0), Ud, (Pt b15 0), Ud, Ud, Ud, Ud, Ud, Ud, Ud, Ud, Ud, Ud, Ud, Ud, Ud]) _
  refine wpList_nil (hK7 _ _ ?_)
  refine wp_seq_k fun K23 hK23 => ?_
  refine wp_region_lit ?_
  refine q_is (l' := [(.agg #[(Fl r1), (Fl r3), (Fl r5)]), (Fl b), (Pt b8 0), Ud, (Pt b15 0), (Pt b8 0), Ud, Ud, Ud, Ud, Ud, Ud, Ud, Ud, Ud, Ud, Ud, Ud]) rfl rfl (does_fieldAddr (ev rfl) fa26_0) rfl ?_
  refine q_is (l' := [(.agg #[(Fl r1), (Fl r3), (Fl r5)]), (Fl b), (Pt b8 0), Ud, (Pt b15 0), (Pt b8 0), (Fl r1), Ud, Ud, Ud, Ud, Ud, Ud, Ud, Ud, Ud, Ud, Ud]) rfl rfl (does_load (u := (Fl r1)) (ev rfl) Try.isAgg24 (Cells.at (Blk.cells (hB10.ext E18)) 0 rfl)) rfl ?_
  refine q_is (l' := [(.agg #[(Fl r1), (Fl r3), (Fl r5)]), (Fl b), (Pt b8 0), Ud, (Pt b15 0), (Pt b8 0), (Fl r1), (Fl b), Ud, Ud, Ud, Ud, Ud, Ud, Ud, Ud, Ud, Ud]) rfl rfl (does_move (u := (Fl b)) (ev rfl)) rfl ?_
  refine seqd rfl rfl (does_float (.inr (.inr (.inl rfl))) (ev rfl) (ev rfl)) ?_; rintro _ w27 ⟨r24, rfl, h25, E26⟩
  have X28 := Ext.gr X22 E26
  show wpList _ _ _ _ (fr [(.agg #[(Fl r1), (Fl r3), (Fl r5)]), (Fl b), (Pt b8 0), Ud, (Pt b15 0), (Pt b8 0), (Fl r1), (Fl b), (Fl r24), Ud, Ud, Ud, Ud, Ud, Ud, Ud, Ud, Ud]) _
  refine q_is (l' := [(.agg #[(Fl r1), (Fl r3), (Fl r5)]), (Fl b), (Pt b8 0), Ud, (Pt b15 0), (Pt b8 0), (Fl r1), (Fl b), (Fl r24), (Pt b8 1), Ud, Ud, Ud, Ud, Ud, Ud, Ud, Ud]) rfl rfl (does_fieldAddr (ev rfl) fa26_1) rfl ?_
  refine q_is (l' := [(.agg #[(Fl r1), (Fl r3), (Fl r5)]), (Fl b), (Pt b8 0), Ud, (Pt b15 0), (Pt b8 0), (Fl r1), (Fl b), (Fl r24), (Pt b8 1), (Fl r3), Ud, Ud, Ud, Ud, Ud, Ud, Ud]) rfl rfl (does_load (u := (Fl r3)) (ev rfl) Try.isAgg24 (Cells.at (Blk.cells ((hB10.ext E18).ext E26)) 1 rfl)) rfl ?_
  refine q_is (l' := [(.agg #[(Fl r1), (Fl r3), (Fl r5)]), (Fl b), (Pt b8 0), Ud, (Pt b15 0), (Pt b8 0), (Fl r1), (Fl b), (Fl r24), (Pt b8 1), (Fl r3), (Fl b), Ud, Ud, Ud, Ud, Ud, Ud]) rfl rfl (does_move (u := (Fl b)) (ev rfl)) rfl ?_
  refine seqd rfl rfl (does_float (.inr (.inr (.inl rfl))) (ev rfl) (ev rfl)) ?_; rintro _ w32 ⟨r29, rfl, h30, E31⟩
  have X33 := Ext.gr X28 E31
  show wpList _ _ _ _ (fr [(.agg #[(Fl r1), (Fl r3), (Fl r5)]), (Fl b), (Pt b8 0), Ud, (Pt b15 0), (Pt b8 0), (Fl r1), (Fl b), (Fl r24), (Pt b8 1), (Fl r3), (Fl b), (Fl r29), Ud, Ud, Ud, Ud, Ud]) _
  refine q_is (l' := [(.agg #[(Fl r1), (Fl r3), (Fl r5)]), (Fl b), (Pt b8 0), Ud, (Pt b15 0), (Pt b8 0), (Fl r1), (Fl b), (Fl r24), (Pt b8 1), (Fl r3), (Fl b), (Fl r29), (Pt b8 2), Ud, Ud, Ud, Ud]) rfl rfl (does_fieldAddr (ev rfl) fa26_2) rfl ?_
  refine q_is (l' := [(.agg #[(Fl r1), (Fl r3), (Fl r5)]), (Fl b), (Pt b8 0), Ud, (Pt b15 0), (Pt b8 0), (Fl r1), (Fl b), (Fl r24), (Pt b8 1), (Fl r3), (Fl b), (Fl r29), (Pt b8 2), (Fl r5), Ud, Ud, Ud]) rfl rfl (does_load (u := (Fl r5)) (ev rfl) Try.isAgg24 (Cells.at (Blk.cells (((hB10.ext E18).ext E26).ext E31)) 2 rfl)) rfl ?_
  refine q_is (l' := [(.agg #[(Fl r1), (Fl r3), (Fl r5)]), (Fl b), (Pt b8 0), Ud, (Pt b15 0), (Pt b8 0), (Fl r1), (Fl b), (Fl r24), (Pt b8 1), (Fl r3), (Fl b), (Fl r29), (Pt b8 2), (Fl r5), (Fl b), Ud, Ud]) rfl rfl (does_move (u := (Fl b)) (ev rfl)) rfl ?_
  refine seqd rfl rfl (does_float (.inr (.inr (.inl rfl))) (ev rfl) (ev rfl)) ?_; rintro _ w37 ⟨r34, rfl, h35, E36⟩
  have X38 := Ext.gr X33 E36
  show wpList _ _ _ _ (fr [(.agg #[(Fl r1), (Fl r3), (Fl r5)]), (Fl b), (Pt b8 0), Ud, (Pt b15 0), (Pt b8 0), (Fl r1), (Fl b), (Fl r24), (Pt b8 1), (Fl r3), (Fl b), (Fl r29), (Pt b8 2), (Fl r5), (Fl b), (Fl r34), Ud]) _
  refine q_is (l' := [(.agg #[(Fl r1), (Fl r3), (Fl r5)]), (Fl b), (Pt b8 0), Ud, (Pt b15 0), (Pt b8 0), (Fl r1), (Fl b), (Fl r24), (Pt b8 1), (Fl r3), (Fl b), (Fl r29), (Pt b8 2), (Fl r5), (Fl b), (Fl r34), (.agg #[(Fl r24), (Fl r29), (Fl r34)])]) rfl rfl (does_build (parts' := [(0, (Fl r24)), (1, (Fl r29)), (2, (Fl r34))]) (cells := #[(Fl r24), (Fl r29), (Fl r34)]) (evp rfl) (by kernel_rfl)) rfl ?_
  refine seqn rfl rfl (does_store (n := 3) (cs := [(Fl 0), (Fl 0), (Fl 0)]) (u := (.agg #[(Fl r24), (Fl r29), (Fl r34)])) (ev rfl) (ev rfl) Try.sizeOf26 rfl (((hB17.ext E26).ext E31).ext E36) (Nat.le_of_ble_eq_true rfl) rfl) ?_; rintro _ w41 ⟨rfl, W39, hB40⟩
  change Blk _ _ [(Fl r24), (Fl r29), (Fl r34)] at hB40
  have X42 := Below.wr X38 W39 g21
  refine wpList_nil (hK23 _ _ ?_)
  refine wp_ret ?_
  refine ret_val (v := (.agg #[(Fl r24), (Fl r29), (Fl r34)])) (res_C rfl (slot rfl) (run_loadAgg (cs := [(Fl r24), (Fl r29), (Fl r34)]) Try.isAgg26 Try.sizeOf26 (Blk.cells hB40) rfl)) X42 ?_
  have x43 : cf .f32 r24 = (vscale A_a (cf .f32 b)).x := by first | with_reducible rfl | (simp only [vscale, h2, h4, h6, h25, h30, h35]; done) | (simp [vscale, h2, h4, h6, h25, h30, h35]; done) | rfl
  have x44 : cf .f32 r29 = (vscale A_a (cf .f32 b)).y := by first | with_reducible rfl | (simp only [vscale, h2, h4, h6, h25, h30, h35]; done) | (simp [vscale, h2, h4, h6, h25, h30, h35]; done) | rfl
  have x45 : cf .f32 r34 = (vscale A_a (cf .f32 b)).z := by first | with_reducible rfl | (simp only [vscale, h2, h4, h6, h25, h30, h35]; done) | (simp [vscale, h2, h4, h6, h25, h30, h35]; done) | rfl
  exact ⟨[(Fl r24), (Fl r29), (Fl r34)], rfl, ⟨r24, r29, r34, rfl, x43, x44, x45⟩⟩

/- impl.UnitOf -/
theorem c_impl_UnitOf (v : List Value) (A_v : V3) (w : World) (hv_v : RV3 w A_v v) : Gives Try.prog 90 #[(.agg v.toArray)] w (fun v w' => ∃ cs_1 : List Value, v = (.agg cs_1.toArray) ∧ RV3 w (unitF A_v) cs_1) := by
  obtain ⟨r1, r3, r5, rfl, h2, h4, h6⟩ := hv_v
  refine enter [(.agg #[(Fl r1), (Fl r3), (Fl r5)]), Ud, Ud, Ud, Ud, Ud, Ud, Ud, Ud, Ud, Ud, Ud, Ud, Ud, Ud, Ud, Ud, Ud, Ud, Ud, Ud, Ud] Try.func90 rfl Try.ntmps90 rfl ?_
  refine wp_seq_k fun K7 hK7 => ?_
  refine wp_region_lit ?_
  refine seqd rfl rfl (does_box (u := (.agg #[(Fl r1), (Fl r3), (Fl r5)])) (ev rfl)) ?_; rintro _ w12 ⟨b8, rfl, hb9, hB10, E11⟩
  have g13 : w.heap.size ≤ b8 := Nat.le_trans (Below.size (Ext.refl w)) hb9
  change Blk _ _ [(Fl r1), (Fl r3), (Fl r5)] at hB10
  have X14 := Ext.gr (Ext.refl w) E11
  show wpList _ _ _ _ (fr [(.agg #[(Fl r1), (Fl r3), (Fl r5)]), (Pt b8 0), Ud, Ud, Ud, Ud, Ud, Ud, Ud, Ud, Ud, Ud, Ud, Ud, Ud, Ud, Ud, Ud, Ud, Ud, Ud, Ud]) _
  refine seqd rfl rfl (does_alloc z26) ?_; rintro _ w19 ⟨b15, rfl, hb16, hB17, E18⟩
  have n20 : b8 < b15 := Nat.lt_of_lt_of_le (Blk.lt hB10) hb16
  have g21 : w.heap.size ≤ b15 := Nat.le_trans (Below.size X14) hb16
  change Blk _ _ [(Fl 0), (Fl 0), (Fl 0)] at hB17
  have X22 := Ext.gr X14 E18
  show wpList _ _ _ _ (fr [(.agg #[(Fl r1), (Fl r3), (Fl r5)]), (Pt b8 0), (Pt b15 0), Ud, Ud, Ud, Ud, Ud, Ud, Ud, Ud, Ud, Ud, Ud, Ud, Ud, Ud, Ud, Ud, Ud, Ud, Ud]) _
  refine wpList_nil (hK7 _ _ ?_)
  refine wp_seq_k fun K23 hK23 => ?_
  refine wp_region_lit ?_
  refine q_is (l' := [(.agg #[(Fl r1), (Fl r3), (Fl r5)]), (Pt b8 0), (Pt b15 0), Ud, Ud, (.agg #[(Fl r1), (Fl r3), (Fl r5)]), Ud, Ud, Ud, Ud, Ud, Ud, Ud, Ud, Ud, Ud, Ud, Ud, Ud, Ud, Ud, Ud]) rfl rfl (does_loadAgg (cs := [(Fl r1), (Fl r3), (Fl r5)]) (ev rfl) Try.isAgg26 Try.sizeOf26 (Blk.cells (hB10.ext E18)) rfl) rfl ?_
  refine seqd rfl rfl (does_call (args := #[(.agg #[(Fl r1), (Fl r3), (Fl r5)])]) cal63 (evs rfl) (c_impl_LongOf [(Fl r1), (Fl r3), (Fl r5)] A_v _ ⟨r1, r3, r5, rfl, h2, h4, h6⟩)) ?_; rintro _ w25 ⟨E24, ⟨r26, rfl, h27⟩⟩
  have X28 := Ext.gr X22 E24
  show wpList _ _ _ _ (fr [(.agg #[(Fl r1), (Fl r3), (Fl r5)]), (Pt b8 0), (Pt b15 0), Ud, Ud, (.agg #[(Fl r1), (Fl r3), (Fl r5)]), (Fl r26), Ud, Ud, Ud, Ud, Ud, Ud, Ud, Ud, Ud, Ud, Ud, Ud, Ud, Ud, Ud]) _
  refine q_is (l' := [(.agg #[(Fl r1), (Fl r3), (Fl r5)]), (Pt b8 0), (Pt b15 0), (Fl r26), Ud, (.agg #[(Fl r1), (Fl r3), (Fl r5)]), (Fl r26), Ud, Ud, Ud, Ud, Ud, Ud, Ud, Ud, Ud, Ud, Ud, Ud, Ud, Ud, Ud]) rfl rfl (does_assign (u := (Fl r26)) (ev rfl)) rfl ?_
  refine wpList_nil (hK23 _ _ ?_)
  refine wp_seq_k fun K29 hK29 => ?_
  refine wp_region_lit ?_
  refine q_is (l' := [(.agg #[(Fl r1), (Fl r3), (Fl r5)]), (Pt b8 0), (Pt b15 0), (Fl r26), Ud, (.agg #[(Fl r1), (Fl r3), (Fl r5)]), (Fl r26), (Fl r26), Ud, Ud, Ud, Ud, Ud, Ud, Ud, Ud, Ud, Ud, Ud, Ud, Ud, Ud]) rfl rfl (does_move (u := (Fl r26)) (ev rfl)) rfl ?_
  refine seqd rfl rfl (does_float (.inr (.inr (.inr rfl))) (ev rfl) (ev rfl)) ?_; rintro _ w33 ⟨r30, rfl, h31, E32⟩
  have X34 := Ext.gr X28 E32
  show wpList _ _ _ _ (fr [(.agg #[(Fl r1), (Fl r3), (Fl r5)]), (Pt b8 0), (Pt b15 0), (Fl r26), Ud, (.agg #[(Fl r1), (Fl r3), (Fl r5)]), (Fl r26), (Fl r26), (Fl r30), Ud, Ud, Ud, Ud, Ud, Ud, Ud, Ud, Ud, Ud, Ud, Ud, Ud]) _
  refine q_is (l' := [(.agg #[(Fl r1), (Fl r3), (Fl r5)]), (Pt b8 0), (Pt b15 0), (Fl r26), (Fl r30), (.agg #[(Fl r1), (Fl r3), (Fl r5)]), (Fl r26), (Fl r26), (Fl r30), Ud, Ud, Ud, Ud, Ud, Ud, Ud, Ud, Ud, Ud, Ud, Ud, Ud]) rfl rfl (does_assign (u := (Fl r30)) (ev rfl)) rfl ?_
  refine wpList_nil (hK29 _ _ ?_)
  refine wp_seq_k fun K35 hK35 => ?_
  refine wp_seq_k fun K36 hK36 => ?_
  obtain ⟨β1, hβ1⟩ : ∃ b : Bool, b = (fcmp .eql (ford .f32 (cf .f32 r26) (cf .f32 0))) := ⟨_, rfl⟩
  obtain ⟨β2, hβ2⟩ : ∃ b : Bool, b = (!([(cf .f32 r26), (cf .f32 r30)]).any (fun x => !finF x)) := ⟨_, rfl⟩
  refine region_text (
    [Fact.pure [] (fun v => v = (Fl r26)),
    Fact.pure [9] (fun v => v = (Bo β1)),
    Fact.pure [10] (fun v => v = (Bo β1)),
    Fact.pure [11] (fun v => β1 = false → v = (Fl r26)),
    Fact.pure [11] (fun v => β1 = false → v = (Fl r30)),
    Fact.mem [12, 13, 11] (fun v w' => β1 = false → ∃ b : Nat, v = .slice (some ⟨b, 0, none⟩) 2 2 ∧ w33.heap.size ≤ b ∧ Blk w' b [(Fl r26), (Fl r30)]) (by intro v w1 w2 hx h hg1; obtain ⟨b, rfl, hb, hB⟩ := h hg1; exact ⟨b, rfl, hb, (hB.ext hx)⟩),
    Fact.pure [14, 11] (fun v => β1 = false → v = (Bo β2)),
    Fact.pure [15, 11] (fun v => β1 = false → v = (Bo (!β2))),
    Fact.pure [11, 16] (fun v => v = (Bo (β1 || (!β2))))]) (by simp [Fact.pure, Fact.mem]) ?_
  refine RW_d (fun v37 => [(.agg #[(Fl r1), (Fl r3), (Fl r5)]), (Pt b8 0), (Pt b15 0), (Fl r26), (Fl r30), (.agg #[(Fl r1), (Fl r3), (Fl r5)]), (Fl r26), (Fl r26), (Fl r30), v37, Ud, Ud, Ud, Ud, Ud, Ud, Ud, Ud, Ud, Ud, Ud, Ud]) rfl (fun _ => rfl) (fun u hu hF => ?_) (fun v37 => ?_)
  · clear hF
    refine doesG_un rfl ?_
    refine (does_move (u := (Fl r26)) (ev rfl)).mono ?_; rintro _ _ ⟨rfl, rfl⟩
    exact ⟨rfl, Ext.refl _⟩
  refine RW_d (fun v38 => [(.agg #[(Fl r1), (Fl r3), (Fl r5)]), (Pt b8 0), (Pt b15 0), (Fl r26), (Fl r30), (.agg #[(Fl r1), (Fl r3), (Fl r5)]), (Fl r26), (Fl r26), (Fl r30), v37, v38, Ud, Ud, Ud, Ud, Ud, Ud, Ud, Ud, Ud, Ud, Ud]) rfl (fun _ => rfl) (fun u hu hF => ?_) (fun v38 => ?_)
  · have h9_ : v37 = (Fl r26) := hF.1
    clear hF
    refine doesG_un rfl ?_
    obtain rfl := h9_
    refine (does_fcmp (.inl rfl) (ev rfl) (ev rfl)).mono ?_; rintro _ _ ⟨rfl, rfl⟩
    exact ⟨(by first | rfl | (show _ = _; simp only [hβ1])), Ext.refl _⟩
  refine RW_d (fun v39 => [(.agg #[(Fl r1), (Fl r3), (Fl r5)]), (Pt b8 0), (Pt b15 0), (Fl r26), (Fl r30), (.agg #[(Fl r1), (Fl r3), (Fl r5)]), (Fl r26), (Fl r26), (Fl r30), v37, v38, v39, Ud, Ud, Ud, Ud, Ud, Ud, Ud, Ud, Ud, Ud]) rfl (fun _ => rfl) (fun u hu hF => ?_) (fun v39 => ?_)
  · have h10_ : v38 = (Bo β1) := hF.1
    clear hF
    refine doesG_un rfl ?_
    obtain rfl := h10_
    refine (does_move (u := (Bo β1)) (ev rfl)).mono ?_; rintro _ _ ⟨rfl, rfl⟩
    exact ⟨rfl, Ext.refl _⟩
  refine RW_d (fun v40 => [(.agg #[(Fl r1), (Fl r3), (Fl r5)]), (Pt b8 0), (Pt b15 0), (Fl r26), (Fl r30), (.agg #[(Fl r1), (Fl r3), (Fl r5)]), (Fl r26), (Fl r26), (Fl r30), v37, v38, v39, v40, Ud, Ud, Ud, Ud, Ud, Ud, Ud, Ud, Ud]) rfl (fun _ => rfl) (fun u hu hF => ?_) (fun v40 => ?_)
  · have h11_ : v39 = (Bo β1) := hF.1
    clear hF
    obtain rfl := h11_
    refine doesG_g (b := β1) rfl (yld rfl rfl) (fun hg1 => ?_) (fun hc => ⟨fun hg1 => absurd hg1 hc, Ext.refl _⟩)
    refine (does_move (u := (Fl r26)) (ev rfl)).mono ?_; rintro _ _ ⟨rfl, rfl⟩
    exact ⟨fun _ => rfl, Ext.refl _⟩
  refine RW_d (fun v41 => [(.agg #[(Fl r1), (Fl r3), (Fl r5)]), (Pt b8 0), (Pt b15 0), (Fl r26), (Fl r30), (.agg #[(Fl r1), (Fl r3), (Fl r5)]), (Fl r26), (Fl r26), (Fl r30), v37, v38, v39, v40, v41, Ud, Ud, Ud, Ud, Ud, Ud, Ud, Ud]) rfl (fun _ => rfl) (fun u hu hF => ?_) (fun v41 => ?_)
  · have h11_ : v39 = (Bo β1) := hF.1
    clear hF
    obtain rfl := h11_
    refine doesG_g (b := β1) rfl (yld rfl rfl) (fun hg1 => ?_) (fun hc => ⟨fun hg1 => absurd hg1 hc, Ext.refl _⟩)
    refine (does_move (u := (Fl r30)) (ev rfl)).mono ?_; rintro _ _ ⟨rfl, rfl⟩
    exact ⟨fun _ => rfl, Ext.refl _⟩
  refine RW_d (fun v42 => [(.agg #[(Fl r1), (Fl r3), (Fl r5)]), (Pt b8 0), (Pt b15 0), (Fl r26), (Fl r30), (.agg #[(Fl r1), (Fl r3), (Fl r5)]), (Fl r26), (Fl r26), (Fl r30), v37, v38, v39, v40, v41, v42, Ud, Ud, Ud, Ud, Ud, Ud, Ud]) rfl (fun _ => rfl) (fun u hu hF => ?_) (fun v42 => ?_)
  · have h12_ : β1 = false → v40 = (Fl r26) := hF.1
    have h13_ : β1 = false → v41 = (Fl r30) := hF.2.1
    have h11_ : v39 = (Bo β1) := hF.2.2.1
    clear hF
    obtain rfl := h11_
    refine doesG_g (b := β1) rfl (yld rfl rfl) (fun hg1 => ?_) (fun hc => ⟨fun hg1 => absurd hg1 hc, Ext.refl _⟩)
    obtain rfl := h12_ hg1
    obtain rfl := h13_ hg1
    refine (does_buildSlice (e := 24) (parts' := [(0, (Fl r26)), (1, (Fl r30))]) (cells := [(Fl r26), (Fl r30)]) (evp rfl) (fun _ => by kernel_rfl)).mono ?_; rintro _ _ ⟨b, rfl, hb, hB, hx⟩
    exact ⟨fun _ => ⟨b, rfl, Nat.le_trans (Below.size hu) hb, hB⟩, hx⟩
  refine RW_d (fun v43 => [(.agg #[(Fl r1), (Fl r3), (Fl r5)]), (Pt b8 0), (Pt b15 0), (Fl r26), (Fl r30), (.agg #[(Fl r1), (Fl r3), (Fl r5)]), (Fl r26), (Fl r26), (Fl r30), v37, v38, v39, v40, v41, v42, v43, Ud, Ud, Ud, Ud, Ud, Ud]) rfl (fun _ => rfl) (fun u hu hF => ?_) (fun v43 => ?_)
  · have h14_ : β1 = false → ∃ b : Nat, v42 = .slice (some ⟨b, 0, none⟩) 2 2 ∧ w33.heap.size ≤ b ∧ Blk u b [(Fl r26), (Fl r30)] := hF.1
    have h11_ : v39 = (Bo β1) := hF.2.1
    clear hF
    obtain rfl := h11_
    refine doesG_g (b := β1) rfl (yld rfl rfl) (fun hg1 => ?_) (fun hc => ⟨fun hg1 => absurd hg1 hc, Ext.refl _⟩)
    obtain ⟨b14_, rfl, hb14_, hB14_⟩ := h14_ hg1
    refine (does_call (args := #[(.slice (some ⟨b14_, 0, none⟩) 2 2)]) cal96 (evs rfl) (c_impl_finite (.slice (some ⟨b14_, 0, none⟩) 2 2) [(cf .f32 r26), (cf .f32 r30)] _ (Sl_lit2 hB14_ ⟨_, rfl, rfl⟩ ⟨_, rfl, rfl⟩))).mono ?_; rintro v u' ⟨hx, hv⟩
    exact ⟨fun _ => hv.trans (by simp only [hβ2]), hx⟩
  refine RW_d (fun v44 => [(.agg #[(Fl r1), (Fl r3), (Fl r5)]), (Pt b8 0), (Pt b15 0), (Fl r26), (Fl r30), (.agg #[(Fl r1), (Fl r3), (Fl r5)]), (Fl r26), (Fl r26), (Fl r30), v37, v38, v39, v40, v41, v42, v43, v44, Ud, Ud, Ud, Ud, Ud]) rfl (fun _ => rfl) (fun u hu hF => ?_) (fun v44 => ?_)
  · have h15_ : β1 = false → v43 = (Bo β2) := hF.1
    have h11_ : v39 = (Bo β1) := hF.2.1
    clear hF
    obtain rfl := h11_
    refine doesG_g (b := β1) rfl (yld rfl rfl) (fun hg1 => ?_) (fun hc => ⟨fun hg1 => absurd hg1 hc, Ext.refl _⟩)
    obtain rfl := h15_ hg1
    refine (does_not (ev rfl)).mono ?_; rintro _ _ ⟨rfl, rfl⟩
    exact ⟨fun _ => rfl, Ext.refl _⟩
  refine RW_d (fun v45 => [(.agg #[(Fl r1), (Fl r3), (Fl r5)]), (Pt b8 0), (Pt b15 0), (Fl r26), (Fl r30), (.agg #[(Fl r1), (Fl r3), (Fl r5)]), (Fl r26), (Fl r26), (Fl r30), v37, v38, v39, v40, v41, v42, v43, v44, v45, Ud, Ud, Ud, Ud]) rfl (fun _ => rfl) (fun u hu hF => ?_) (fun v45 => ?_)
  · have h11_ : v39 = (Bo β1) := hF.1
    have h16_ : β1 = false → v44 = (Bo (!β2)) := hF.2.1
    clear hF
    refine doesG_un rfl ?_
    skip
    obtain rfl := h11_
    refine (does_pick (b := β1) (ev rfl) (ev rfl) (ev rfl)).mono ?_; rintro _ _ ⟨rfl, rfl⟩; refine ⟨?_, Ext.refl _⟩; skip
    cases hbb : β1 <;> simp [hbb] at h16_ ⊢
    all_goals (first | rfl | (subst h16_; rfl) | simp_all)
  refine RW_fin ?_; intro w46 E47 hP48
  obtain ⟨⟨⟨⟨⟨⟨⟨⟨⟨-, -⟩, -⟩, -⟩, -⟩, -⟩, -⟩, -⟩, -⟩, q49⟩ := hP48
  have X50 := Ext.gr X34 E47
  have q49 : v45 = (Bo (β1 || (!β2))) := q49
  obtain rfl := q49
  show wpList _ _ _ _ (fr [(.agg #[(Fl r1), (Fl r3), (Fl r5)]), (Pt b8 0), (Pt b15 0), (Fl r26), (Fl r30), (.agg #[(Fl r1), (Fl r3), (Fl r5)]), (Fl r26), (Fl r26), (Fl r30), v37, v38, v39, v40, v41, v42, v43, v44, (Bo (β1 || (!β2))), Ud, Ud, Ud, Ud]) _
  refine wpList_nil (hK36 _ _ ?_)
  refine wp_cond_split (t := β1 || (!β2)) (ev rfl) (fun c51 => ?_) (fun c51 => ?_)
  · have c51' := c51
    (try simp only [hβ1, hβ2, any2_finF] at c51')
    (try simp only [hβ1, hβ2] at c51')
    (try simp only [icmp, Bool.and_eq_true, Bool.or_eq_true, Bool.and_eq_false_iff, Bool.or_eq_false_iff, Bool.not_eq_true', Bool.not_eq_false', decide_eq_true_eq, decide_eq_false_iff_not, beq_iff_eq, bne_iff_ne, beq_eq_false_iff_ne, bne_eq_false_iff_eq] at c51')
    refine wp_seq_k fun K52 hK52 => ?_
    refine wp_region_lit ?_
    refine q_is (l' := [(.agg #[(Fl r1), (Fl r3), (Fl r5)]), (Pt b8 0), (Pt b15 0), (Fl r26), (Fl r30), (.agg #[(Fl r1), (Fl r3), (Fl r5)]), (Fl r26), (Fl r26), (Fl r30), v37, v38, v39, v40, v41, v42, v43, v44, (Bo (β1 || (!β2))), (.agg #[(Fl 0), (Fl 0), (Fl 0)]), Ud, Ud, Ud]) rfl rfl (does_build (parts' := []) (cells := #[(Fl 0), (Fl 0), (Fl 0)]) (evp rfl) (by kernel_rfl)) rfl ?_
    refine seqn rfl rfl (does_store (n := 3) (cs := [(Fl 0), (Fl 0), (Fl 0)]) (u := (.agg #[(Fl 0), (Fl 0), (Fl 0)])) (ev rfl) (ev rfl) Try.sizeOf26 rfl (((hB17.ext E24).ext E32).ext E47) (Nat.le_of_ble_eq_true rfl) rfl) ?_; rintro _ w55 ⟨rfl, W53, hB54⟩
    change Blk _ _ [(Fl 0), (Fl 0), (Fl 0)] at hB54
    have X56 := Below.wr X50 W53 g21
    refine wpList_nil (hK52 _ _ ?_)
    refine wp_ret ?_
    dsimp only [Exit.then, Exit.inBlock]
    refine ret_val (v := (.agg #[(Fl 0), (Fl 0), (Fl 0)])) (res_C rfl (slot rfl) (run_loadAgg (cs := [(Fl 0), (Fl 0), (Fl 0)]) Try.isAgg26 Try.sizeOf26 (Blk.cells hB54) rfl)) X56 ?_
    try simp only [h2, h4, h6, h27, h31, hβ1, hβ2, any2_finF] at c51
    have x57 : cf .f32 0 = (unitF A_v).x := by first | (rw [unit_zero1 (by assumption)]; rfl) | (rw [unit_zero2 (by assumption)]; rfl) | (rw [unit_by1 (by assumption)]; simp only [vscale, h2, h4, h6, h27, h31, hβ1, hβ2, c51]; done) | (rw [unit_by2 (by assumption)]; simp only [vscale, h2, h4, h6, h27, h31, hβ1, hβ2, c51]; done)
    have x58 : cf .f32 0 = (unitF A_v).y := by first | (rw [unit_zero1 (by assumption)]; rfl) | (rw [unit_zero2 (by assumption)]; rfl) | (rw [unit_by1 (by assumption)]; simp only [vscale, h2, h4, h6, h27, h31, hβ1, hβ2, c51]; done) | (rw [unit_by2 (by assumption)]; simp only [vscale, h2, h4, h6, h27, h31, hβ1, hβ2, c51]; done)
    have x59 : cf .f32 0 = (unitF A_v).z := by first | (rw [unit_zero1 (by assumption)]; rfl) | (rw [unit_zero2 (by assumption)]; rfl) | (rw [unit_by1 (by assumption)]; simp only [vscale, h2, h4, h6, h27, h31, hβ1, hβ2, c51]; done) | (rw [unit_by2 (by assumption)]; simp only [vscale, h2, h4, h6, h27, h31, hβ1, hβ2, c51]; done)
    exact ⟨[(Fl 0), (Fl 0), (Fl 0)], rfl, ⟨0, 0, 0, rfl, x57, x58, x59⟩⟩
  have c51' := c51
  (try simp only [hβ1, hβ2, any2_finF] at c51')
  (try simp only [hβ1, hβ2] at c51')
  (try simp only [icmp, Bool.and_eq_true, Bool.or_eq_true, Bool.and_eq_false_iff, Bool.or_eq_false_iff, Bool.not_eq_true', Bool.not_eq_false', decide_eq_true_eq, decide_eq_false_iff_not, beq_iff_eq, bne_iff_ne, beq_eq_false_iff_ne, bne_eq_false_iff_eq] at c51')
  refine wp_skip (hK35 _ _ ?_)
  refine wp_seq_k fun K60 hK60 => ?_
  refine wp_region_lit ?_
  refine q_is (l' := [(.agg #[(Fl r1), (Fl r3), (Fl r5)]), (Pt b8 0), (Pt b15 0), (Fl r26), (Fl r30), (.agg #[(Fl r1), (Fl r3), (Fl r5)]), (Fl r26), (Fl r26), (Fl r30), v37, v38, v39, v40, v41, v42, v43, v44, (Bo (β1 || (!β2))), Ud, (.agg #[(Fl r1), (Fl r3), (Fl r5)]), Ud, Ud]) rfl rfl (does_loadAgg (cs := [(Fl r1), (Fl r3), (Fl r5)]) (ev rfl) Try.isAgg26 Try.sizeOf26 (Blk.cells ((((hB10.ext E18).ext E24).ext E32).ext E47)) rfl) rfl ?_
  refine q_is (l' := [(.agg #[(Fl r1), (Fl r3), (Fl r5)]), (Pt b8 0), (Pt b15 0), (Fl r26), (Fl r30), (.agg #[(Fl r1), (Fl r3), (Fl r5)]), (Fl r26), (Fl r26), (Fl r30), v37, v38, v39, v40, v41, v42, v43, v44, (Bo (β1 || (!β2))), Ud, (.agg #[(Fl r1), (Fl r3), (Fl r5)]), (Fl r30), Ud]) rfl rfl (does_move (u := (Fl r30)) (ev rfl)) rfl ?_
  refine seqd rfl rfl (does_call (args := #[(.agg #[(Fl r1), (Fl r3), (Fl r5)]), (Fl r30)]) cal92 (evs rfl) (c_impl_ScaleVector [(Fl r1), (Fl r3), (Fl r5)] A_v r30 _ ⟨r1, r3, r5, rfl, h2, h4, h6⟩)) ?_; rintro _ w62 ⟨E61, ⟨_, rfl, ⟨r63, r65, r67, rfl, h64, h66, h68⟩⟩⟩
  have X69 := Ext.gr X50 E61
  show wpList _ _ _ _ (fr [(.agg #[(Fl r1), (Fl r3), (Fl r5)]), (Pt b8 0), (Pt b15 0), (Fl r26), (Fl r30), (.agg #[(Fl r1), (Fl r3), (Fl r5)]), (Fl r26), (Fl r26), (Fl r30), v37, v38, v39, v40, v41, v42, v43, v44, (Bo (β1 || (!β2))), Ud, (.agg #[(Fl r1), (Fl r3), (Fl r5)]), (Fl r30), (.agg #[(Fl r63), (Fl r65), (Fl r67)])]) _
  refine seqn rfl rfl (does_store (n := 3) (cs := [(Fl 0), (Fl 0), (Fl 0)]) (u := (.agg #[(Fl r63), (Fl r65), (Fl r67)])) (ev rfl) (ev rfl) Try.sizeOf26 rfl ((((hB17.ext E24).ext E32).ext E47).ext E61) (Nat.le_of_ble_eq_true rfl) rfl) ?_; rintro _ w72 ⟨rfl, W70, hB71⟩
  change Blk _ _ [(Fl r63), (Fl r65), (Fl r67)] at hB71
  have X73 := Below.wr X69 W70 g21
  refine wpList_nil (hK60 _ _ ?_)
  refine wp_ret ?_
  refine ret_val (v := (.agg #[(Fl r63), (Fl r65), (Fl r67)])) (res_C rfl (slot rfl) (run_loadAgg (cs := [(Fl r63), (Fl r65), (Fl r67)]) Try.isAgg26 Try.sizeOf26 (Blk.cells hB71) rfl)) X73 ?_
  try simp only [h2, h4, h6, h27, h31, hβ1, hβ2, h64, h66, h68, any2_finF] at c51
  have x74 : cf .f32 r63 = (unitF A_v).x := by first | (rw [unit_zero1 (by assumption)]; rfl) | (rw [unit_zero2 (by assumption)]; rfl) | (rw [unit_by1 (by assumption)]; simp only [vscale, h2, h4, h6, h27, h31, hβ1, hβ2, h64, h66, h68, c51]; done) | (rw [unit_by2 (by assumption)]; simp only [vscale, h2, h4, h6, h27, h31, hβ1, hβ2, h64, h66, h68, c51]; done)
  have x75 : cf .f32 r65 = (unitF A_v).y := by first | (rw [unit_zero1 (by assumption)]; rfl) | (rw [unit_zero2 (by assumption)]; rfl) | (rw [unit_by1 (by assumption)]; simp only [vscale, h2, h4, h6, h27, h31, hβ1, hβ2, h64, h66, h68, c51]; done) | (rw [unit_by2 (by assumption)]; simp only [vscale, h2, h4, h6, h27, h31, hβ1, hβ2, h64, h66, h68, c51]; done)
  have x76 : cf .f32 r67 = (unitF A_v).z := by first | (rw [unit_zero1 (by assumption)]; rfl) | (rw [unit_zero2 (by assumption)]; rfl) | (rw [unit_by1 (by assumption)]; simp only [vscale, h2, h4, h6, h27, h31, hβ1, hβ2, h64, h66, h68, c51]; done) | (rw [unit_by2 (by assumption)]; simp only [vscale, h2, h4, h6, h27, h31, hβ1, hβ2, h64, h66, h68, c51]; done)
  exact ⟨[(Fl r63), (Fl r65), (Fl r67)], rfl, ⟨r63, r65, r67, rfl, x74, x75, x76⟩⟩

/- impl.LessVectors -/
theorem c_impl_LessVectors (a : List Value) (A_a : V3) (b : List Value) (A_b : V3) (w : World) (hv_a : RV3 w A_a a) (hv_b : RV3 w A_b b) : Gives Try.prog 91 #[(.agg a.toArray), (.agg b.toArray)] w (fun v w' => ∃ cs_1 : List Value, v = (.agg cs_1.toArray) ∧ RV3 w (vsub A_a A_b) cs_1) := by
  obtain ⟨r1, r3, r5, rfl, h2, h4, h6⟩ := hv_a
  obtain ⟨r7, r9, r11, rfl, h8, h10, h12⟩ := hv_b
  refine enter [(.agg #[(Fl r1), (Fl r3), (Fl r5)]), (.agg #[(Fl r7), (Fl r9), (Fl r11)]), Ud, Ud, Ud, Ud, Ud, Ud, Ud, Ud, Ud, Ud, Ud, Ud, Ud, Ud, Ud, Ud, Ud, Ud, Ud] Try.func91 rfl Try.ntmps91 rfl ?_
  refine wp_seq_k fun K13 hK13 => ?_
  refine wp_region_lit ?_
  refine seqd rfl rfl (does_box (u := (.agg #[(Fl r1), (Fl r3), (Fl r5)])) (ev rfl)) ?_; rintro _ w18 ⟨b14, rfl, hb15, hB16, E17⟩
  have g19 : w.heap.size ≤ b14 := Nat.le_trans (Below.size (Ext.refl w)) hb15
  change Blk _ _ [(Fl r1), (Fl r3), (Fl r5)] at hB16
  have X20 := Ext.gr (Ext.refl w) E17
  show wpList _ _ _ _ (fr [(.agg #[(Fl r1), (Fl r3), (Fl r5)]), (.agg #[(Fl r7), (Fl r9), (Fl r11)]), (Pt b14 0), Ud, Ud, Ud, Ud, Ud, Ud, Ud, Ud, Ud, Ud, Ud, Ud, Ud, Ud, Ud, Ud, Ud, Ud]) _
  refine seqd rfl rfl (does_box (u := (.agg #[(Fl r7), (Fl r9), (Fl r11)])) (ev rfl)) ?_; rintro _ w25 ⟨b21, rfl, hb22, hB23, E24⟩
  have n26 : b14 < b21 := Nat.lt_of_lt_of_le (Blk.lt hB16) hb22
  have g27 : w.heap.size ≤ b21 := Nat.le_trans (Below.size X20) hb22
  change Blk _ _ [(Fl r7), (Fl r9), (Fl r11)] at hB23
  have X28 := Ext.gr X20 E24
  show wpList _ _ _ _ (fr [(.agg #[(Fl r1), (Fl r3), (Fl r5)]), (.agg #[(Fl r7), (Fl r9), (Fl r11)]), (Pt b14 0), (Pt b21 0), Ud, Ud, Ud, Ud, Ud, Ud, Ud, Ud, Ud, Ud, Ud, Ud, Ud, Ud, Ud, Ud, Ud]) _
  refine seqd rfl rfl (does_alloc z26) ?_; rintro _ w33 ⟨b29, rfl, hb30, hB31, E32⟩
  have n34 : b14 < b29 := Nat.lt_of_lt_of_le (Blk.lt (hB16.ext E24)) hb30
  have n35 : b21 < b29 := Nat.lt_of_lt_of_le (Blk.lt hB23) hb30
  have g36 : w.heap.size ≤ b29 := Nat.le_trans (Below.size X28) hb30
  change Blk _ _ [(Fl 0), (Fl 0), (Fl 0)] at hB31
  have X37 := Ext.gr X28 E32
  show wpList _ _ _ _ (fr [(.agg #[(Fl r1), (Fl r3), (Fl r5)]), (.agg #[(Fl r7), (Fl r9), (Fl r11)]), (Pt b14 0), (Pt b21 0), (Pt b29 0), Ud, Ud, Ud, Ud, Ud, Ud, Ud, Ud, Ud, Ud, Ud, Ud, Ud, Ud, Ud, Ud]) _
  refine wpList_nil (hK13 _ _ ?_)
  refine wp_seq_k fun K38 hK38 => ?_
  refine wp_region_lit ?_
  refine q_is (l' := [(.agg #[(Fl r1), (Fl r3), (Fl r5)]), (.agg #[(Fl r7), (Fl r9), (Fl r11)]), (Pt b14 0), (Pt b21 0), (Pt b29 0), (Pt b14 0), Ud, Ud, Ud, Ud, Ud, Ud, Ud, Ud, Ud, Ud, Ud, Ud, Ud, Ud, Ud]) rfl rfl (does_fieldAddr (ev rfl) fa26_0) rfl ?_
  refine q_is (l' := [(.agg #[(Fl r1), (Fl r3), (Fl r5)]), (.agg #[(Fl r7), (Fl r9), (Fl r11)]), (Pt b14 0), (Pt b21 0), (Pt b29 0), (Pt b14 0), (Fl r1), Ud, Ud, Ud, Ud, Ud, Ud, Ud, Ud, Ud, Ud, Ud, Ud, Ud, Ud]) rfl rfl (does_load (u := (Fl r1)) (ev rfl) Try.isAgg24 (Cells.at (Blk.cells ((hB16.ext E24).ext E32)) 0 rfl)) rfl ?_
  refine q_is (l' := [(.agg #[(Fl r1), (Fl r3), (Fl r5)]), (.agg #[(Fl r7), (Fl r9), (Fl r11)]), (Pt b14 0), (Pt b21 0), (Pt b29 0), (Pt b14 0), (Fl r1), (Pt b21 0), Ud, Ud, Ud, Ud, Ud, Ud, Ud, Ud, Ud, Ud, Ud, Ud, Ud]) rfl rfl (does_fieldAddr (ev rfl) fa26_0) rfl ?_
  refine q_is (l' := [(.agg #[(Fl r1), (Fl r3), (Fl r5)]), (.agg #[(Fl r7), (Fl r9), (Fl r11)]), (Pt b14 0), (Pt b21 0), (Pt b29 0), (Pt b14 0), (Fl r1), (Pt b21 0), (Fl r7), Ud, Ud, Ud, Ud, Ud, Ud, Ud, Ud, Ud, Ud, Ud, Ud]) rfl rfl (does_load (u := (Fl r7)) (ev rfl) Try.isAgg24 (Cells.at (Blk.cells (hB23.ext E32)) 0 rfl)) rfl ?_
  refine seqd rfl rfl (does_float (.inr (.inl rfl)) (ev rfl) (ev rfl)) ?_; rintro _ w42 ⟨r39, rfl, h40, E41⟩
  have X43 := Ext.gr X37 E41
  show wpList _ _ _ _ (fr [(.agg #[(Fl r1), (Fl r3), (Fl r5)]), (.agg #[(Fl r7), (Fl r9), (Fl r11)]), (Pt b14 0), (Pt b21 0), (Pt b29 0), (Pt b14 0), (Fl r1), (Pt b21 0), (Fl r7), (Fl r39), Ud, Ud, Ud, Ud, Ud, Ud, Ud, Ud, Ud, Ud, Ud]) _
  refine q_is (l' := [(.agg #[(Fl r1), (Fl r3), (Fl r5)]), (.agg #[(Fl r7), (Fl r9), (Fl r11)]), (Pt b14 0), (Pt b21 0), (Pt b29 0), (Pt b14 0), (Fl r1), (Pt b21 0), (Fl r7), (Fl r39), (Pt b14 1), Ud, Ud, Ud, Ud, Ud, Ud, Ud, Ud, Ud, Ud]) rfl rfl (does_fieldAddr (ev rfl) fa26_1) rfl ?_
  refine q_is (l' := [(.agg #[(Fl r1), (Fl r3), (Fl r5)]), (.agg #[(Fl r7), (Fl r9), (Fl r11)]), (Pt b14 0), (Pt b21 0), (Pt b29 0), (Pt b14 0), (Fl r1), (Pt b21 0), (Fl r7), (Fl r39), (Pt b14 1), (Fl r3), Ud, Ud, Ud, Ud, Ud, Ud, Ud, Ud, Ud]) rfl rfl (does_load (u := (Fl r3)) (ev rfl) Try.isAgg24 (Cells.at (Blk.cells (((hB16.ext E24).ext E32).ext E41)) 1 rfl)) rfl ?_
  refine q_is (l' := [(.agg #[(Fl r1), (Fl r3), (Fl r5)]), (.agg #[(Fl r7), (Fl r9), (Fl r11)]), (Pt b14 0), (Pt b21 0), (Pt b29 0), (Pt b14 0), (Fl r1), (Pt b21 0), (Fl r7), (Fl r39), (Pt b14 1), (Fl r3), (Pt b21 1), Ud, Ud, Ud, Ud, Ud, Ud, Ud, Ud]) rfl rfl (does_fieldAddr (ev rfl) fa26_1) rfl ?_
  refine q_is (l' := [(.agg #[(Fl r1), (Fl r3), (Fl r5)]), (.agg #[(Fl r7), (Fl r9), (Fl r11)]), (Pt b14 0), (Pt b21 0), (Pt b29 0), (Pt b14 0), (Fl r1), (Pt b21 0), (Fl r7), (Fl r39), (Pt b14 1), (Fl r3), (Pt b21 1), (Fl r9), Ud, Ud, Ud, Ud, Ud, Ud, Ud]) rfl rfl (does_load (u := (Fl r9)) (ev rfl) Try.isAgg24 (Cells.at (Blk.cells ((hB23.ext E32).ext E41)) 1 rfl)) rfl ?_
  refine seqd rfl rfl (does_float (.inr (.inl rfl)) (ev rfl) (ev rfl)) ?_; rintro _ w47 ⟨r44, rfl, h45, E46⟩
  have X48 := Ext.gr X43 E46
  show wpList _ _ _ _ (fr [(.agg #[(Fl r1), (Fl r3), (Fl r5)]), (.agg #[(Fl r7), (Fl r9), (Fl r11)]), (Pt b14 0), (Pt b21 0), (Pt b29 0), (Pt b14 0), (Fl r1), (Pt b21 0), (Fl r7), (Fl r39), (Pt b14 1), (Fl r3), (Pt b21 1), (Fl r9), (Fl r44), Ud, Ud, Ud, Ud, Ud, Ud]) _
  refine q_is (l' := [(.agg #[(Fl r1), (Fl r3), (Fl r5)]), (.agg #[(Fl r7), (Fl r9), (Fl r11)]), (Pt b14 0), (Pt b21 0), (Pt b29 0), (Pt b14 0), (Fl r1), (Pt b21 0), (Fl r7), (Fl r39), (Pt b14 1), (Fl r3), (Pt b21 1), (Fl r9), (Fl r44), (Pt b14 2), Ud, Ud, Ud, Ud, Ud]) rfl rfl (does_fieldAddr (ev rfl) fa26_2) rfl ?_
  refine q_is (l' := [(.agg #[(Fl r1), (Fl r3), (Fl r5)]), (.agg #[(Fl r7), (Fl r9), (Fl r11)]), (Pt b14 0), (Pt b21 0), (Pt b29 0), (Pt b14 0), (Fl r1), (Pt b21 0), (Fl r7), (Fl r39), (Pt b14 1), (Fl r3), (Pt b21 1), (Fl r9), (Fl r44), (Pt b14 2), (Fl r5), Ud, Ud, Ud, Ud]) rfl rfl (does_load (u := (Fl r5)) (ev rfl) Try.isAgg24 (Cells.at (Blk.cells ((((hB16.ext E24).ext E32).ext E41).ext E46)) 2 rfl)) rfl ?_
  refine q_is (l' := [(.agg #[(Fl r1), (Fl r3), (Fl r5)]), (.agg #[(Fl r7), (Fl r9), (Fl r11)]), (Pt b14 0), (Pt b21 0), (Pt b29 0), (Pt b14 0), (Fl r1), (Pt b21 0), (Fl r7), (Fl r39), (Pt b14 1), (Fl r3), (Pt b21 1), (Fl r9), (Fl r44), (Pt b14 2), (Fl r5), (Pt b21 2), Ud, Ud, Ud]) rfl rfl (does_fieldAddr (ev rfl) fa26_2) rfl ?_
  refine q_is (l' := [(.agg #[(Fl r1), (Fl r3), (Fl r5)]), (.agg #[(Fl r7), (Fl r9), (Fl r11)]), (Pt b14 0), (Pt b21 0), (Pt b29 0), (Pt b14 0), (Fl r1), (Pt b21 0), (Fl r7), (Fl r39), (Pt b14 1), (Fl r3), (Pt b21 1), (Fl r9), (Fl r44), (Pt b14 2), (Fl r5), (Pt b21 2), (Fl r11), Ud, Ud]) rfl rfl (does_load (u := (Fl r11)) (ev rfl) Try.isAgg24 (Cells.at (Blk.cells (((hB23.ext E32).ext E41).ext E46)) 2 rfl)) rfl ?_
  refine seqd rfl rfl (does_float (.inr (.inl rfl)) (ev rfl) (ev rfl)) ?_; rintro _ w52 ⟨r49, rfl, h50, E51⟩
  have X53 := Ext.gr X48 E51
  show wpList _ _ _ _ (fr [(.agg #[(Fl r1), (Fl r3), (Fl r5)]), (.agg #[(Fl r7), (Fl r9), (Fl r11)]), (Pt b14 0), (Pt b21 0), (Pt b29 0), (Pt b14 0), (Fl r1), (Pt b21 0), (Fl r7), (Fl r39), (Pt b14 1), (Fl r3), (Pt b21 1), (Fl r9), (Fl r44), (Pt b14 2), (Fl r5), (Pt b21 2), (Fl r11), (Fl r49), Ud]) _
  refine q_is (l' := [(.agg #[(Fl r1), (Fl r3), (Fl r5)]), (.agg #[(Fl r7), (Fl r9), (Fl r11)]), (Pt b14 0), (Pt b21 0), (Pt b29 0), (Pt b14 0), (Fl r1), (Pt b21 0), (Fl r7), (Fl r39), (Pt b14 1), (Fl r3), (Pt b21 1), (Fl r9), (Fl r44), (Pt b14 2), (Fl r5), (Pt b21 2), (Fl r11), (Fl r49), (.agg #[(Fl r39), (Fl r44), (Fl r49)])]) rfl rfl (does_build (parts' := [(0, (Fl r39)), (1, (Fl r44)), (2, (Fl r49))]) (cells := #[(Fl r39), (Fl r44), (Fl r49)]) (evp rfl) (by kernel_rfl)) rfl ?_
  refine seqn rfl rfl (does_store (n := 3) (cs := [(Fl 0), (Fl 0), (Fl 0)]) (u := (.agg #[(Fl r39), (Fl r44), (Fl r49)])) (ev rfl) (ev rfl) Try.sizeOf26 rfl (((hB31.ext E41).ext E46).ext E51) (Nat.le_of_ble_eq_true rfl) rfl) ?_; rintro _ w56 ⟨rfl, W54, hB55⟩
  change Blk _ _ [(Fl r39), (Fl r44), (Fl r49)] at hB55
  have X57 := Below.wr X53 W54 g36
  refine wpList_nil (hK38 _ _ ?_)
  refine wp_ret ?_
  refine ret_val (v := (.agg #[(Fl r39), (Fl r44), (Fl r49)])) (res_C rfl (slot rfl) (run_loadAgg (cs := [(Fl r39), (Fl r44), (Fl r49)]) Try.isAgg26 Try.sizeOf26 (Blk.cells hB55) rfl)) X57 ?_
  have x58 : cf .f32 r39 = (vsub A_a A_b).x := by first | with_reducible rfl | (simp only [vsub, h2, h4, h6, h8, h10, h12, h40, h45, h50]; done) | (simp [vsub, h2, h4, h6, h8, h10, h12, h40, h45, h50]; done) | rfl
  have x59 : cf .f32 r44 = (vsub A_a A_b).y := by first | with_reducible rfl | (simp only [vsub, h2, h4, h6, h8, h10, h12, h40, h45, h50]; done) | (simp [vsub, h2, h4, h6, h8, h10, h12, h40, h45, h50]; done) | rfl
  have x60 : cf .f32 r49 = (vsub A_a A_b).z := by first | with_reducible rfl | (simp only [vsub, h2, h4, h6, h8, h10, h12, h40, h45, h50]; done) | (simp [vsub, h2, h4, h6, h8, h10, h12, h40, h45, h50]; done) | rfl
  exact ⟨[(Fl r39), (Fl r44), (Fl r49)], rfl, ⟨r39, r44, r49, rfl, x58, x59, x60⟩⟩

/- impl.crossed -/
theorem c_impl_crossed (c1 : Nat) (c2 : Nat) (c3 : Nat) (c4 : Nat) (w : World) : Gives Try.prog 114 #[(Fl c1), (Fl c2), (Fl c3), (Fl c4)] w (fun v w' => ∃ r_1 : Nat, v = (Fl r_1) ∧ cf .f32 r_1 = fop .sub .f32 (fop .mul .f32 (cf .f32 c1) (cf .f32 c2)) (fop .mul .f32 (cf .f32 c3) (cf .f32 c4))) := by
  refine enter [(Fl c1), (Fl c2), (Fl c3), (Fl c4), Ud, Ud, Ud, Ud, Ud, Ud, Ud, Ud, Ud, Ud, Ud, Ud] Try.func114 rfl Try.ntmps114 rfl ?_
  refine wp_seq_k fun K1 hK1 => ?_
  refine wp_region_lit ?_
  refine q_is (l' := [(Fl c1), (Fl c2), (Fl c3), (Fl c4), Ud, Ud, Ud, Ud, (Fl 0), Ud, Ud, Ud, Ud, Ud, Ud, Ud]) rfl rfl (does_assign (u := (Fl 0)) (ev rfl)) rfl ?_
  refine wpList_nil (hK1 _ _ ?_)
  refine wp_seq_k fun K2 hK2 => ?_
  refine wp_region_lit ?_
  refine q_is (l' := [(Fl c1), (Fl c2), (Fl c3), (Fl c4), Ud, Ud, Ud, Ud, (Fl 0), (Fl c1), Ud, Ud, Ud, Ud, Ud, Ud]) rfl rfl (does_move (u := (Fl c1)) (ev rfl)) rfl ?_
  refine q_is (l' := [(Fl c1), (Fl c2), (Fl c3), (Fl c4), Ud, Ud, Ud, Ud, (Fl 0), (Fl c1), (Fl c2), Ud, Ud, Ud, Ud, Ud]) rfl rfl (does_move (u := (Fl c2)) (ev rfl)) rfl ?_
  refine seqd rfl rfl (does_float (.inr (.inr (.inl rfl))) (ev rfl) (ev rfl)) ?_; rintro _ w6 ⟨r3, rfl, h4, E5⟩
  have X7 := Ext.gr (Ext.refl w) E5
  show wpList _ _ _ _ (fr [(Fl c1), (Fl c2), (Fl c3), (Fl c4), Ud, Ud, Ud, Ud, (Fl 0), (Fl c1), (Fl c2), (Fl r3), Ud, Ud, Ud, Ud]) _
  refine q_is (l' := [(Fl c1), (Fl c2), (Fl c3), (Fl c4), Ud, Ud, Ud, Ud, (Fl 0), (Fl c1), (Fl c2), (Fl r3), (Fl c3), Ud, Ud, Ud]) rfl rfl (does_move (u := (Fl c3)) (ev rfl)) rfl ?_
  refine q_is (l' := [(Fl c1), (Fl c2), (Fl c3), (Fl c4), Ud, Ud, Ud, Ud, (Fl 0), (Fl c1), (Fl c2), (Fl r3), (Fl c3), (Fl c4), Ud, Ud]) rfl rfl (does_move (u := (Fl c4)) (ev rfl)) rfl ?_
  refine seqd rfl rfl (does_float (.inr (.inr (.inl rfl))) (ev rfl) (ev rfl)) ?_; rintro _ w11 ⟨r8, rfl, h9, E10⟩
  have X12 := Ext.gr X7 E10
  show wpList _ _ _ _ (fr [(Fl c1), (Fl c2), (Fl c3), (Fl c4), Ud, Ud, Ud, Ud, (Fl 0), (Fl c1), (Fl c2), (Fl r3), (Fl c3), (Fl c4), (Fl r8), Ud]) _
  refine seqd rfl rfl (does_float (.inr (.inl rfl)) (ev rfl) (ev rfl)) ?_; rintro _ w16 ⟨r13, rfl, h14, E15⟩
  have X17 := Ext.gr X12 E15
  show wpList _ _ _ _ (fr [(Fl c1), (Fl c2), (Fl c3), (Fl c4), Ud, Ud, Ud, Ud, (Fl 0), (Fl c1), (Fl c2), (Fl r3), (Fl c3), (Fl c4), (Fl r8), (Fl r13)]) _
  refine q_is (l' := [(Fl c1), (Fl c2), (Fl c3), (Fl c4), Ud, Ud, Ud, Ud, (Fl r13), (Fl c1), (Fl c2), (Fl r3), (Fl c3), (Fl c4), (Fl r8), (Fl r13)]) rfl rfl (does_assign (u := (Fl r13)) (ev rfl)) rfl ?_
  refine wpList_nil (hK2 _ _ ?_)
  refine wp_ret ?_
  refine ret_val (v := (Fl r13)) (res_T rfl (slot rfl)) X17 ?_
  have x18 : cf .f32 r13 = fop .sub .f32 (fop .mul .f32 (cf .f32 c1) (cf .f32 c2)) (fop .mul .f32 (cf .f32 c3) (cf .f32 c4)) := by first | with_reducible rfl | (simp only [h4, h9, h14]; done) | (simp [h4, h9, h14]; done) | rfl
  exact ⟨r13, rfl, x18⟩

/- impl.CrossOf -/
theorem c_impl_CrossOf (a : List Value) (A_a : V3) (b : List Value) (A_b : V3) (w : World) (hv_a : RV3 w A_a a) (hv_b : RV3 w A_b b) : Gives Try.prog 103 #[(.agg a.toArray), (.agg b.toArray)] w (fun v w' => ∃ cs_1 : List Value, v = (.agg cs_1.toArray) ∧ RV3 w (crossF A_a A_b) cs_1) := by
  obtain ⟨r1, r3, r5, rfl, h2, h4, h6⟩ := hv_a
  obtain ⟨r7, r9, r11, rfl, h8, h10, h12⟩ := hv_b
  refine enter [(.agg #[(Fl r1), (Fl r3), (Fl r5)]), (.agg #[(Fl r7), (Fl r9), (Fl r11)]), Ud, Ud, Ud, Ud, Ud, Ud, Ud, Ud, Ud, Ud, Ud, Ud, Ud, Ud, Ud, Ud, Ud, Ud, Ud, Ud, Ud, Ud, Ud, Ud, Ud, Ud, Ud, Ud, Ud, Ud, Ud] Try.func103 rfl Try.ntmps103 rfl ?_
  refine wp_seq_k fun K13 hK13 => ?_
  refine wp_region_lit ?_
  refine seqd rfl rfl (does_box (u := (.agg #[(Fl r1), (Fl r3), (Fl r5)])) (ev rfl)) ?_; rintro _ w18 ⟨b14, rfl, hb15, hB16, E17⟩
  have g19 : w.heap.size ≤ b14 := Nat.le_trans (Below.size (Ext.refl w)) hb15
  change Blk _ _ [(Fl r1), (Fl r3), (Fl r5)] at hB16
  have X20 := Ext.gr (Ext.refl w) E17
  show wpList _ _ _ _ (fr [(.agg #[(Fl r1), (Fl r3), (Fl r5)]), (.agg #[(Fl r7), (Fl r9), (Fl r11)]), (Pt b14 0), Ud, Ud, Ud, Ud, Ud, Ud, Ud, Ud, Ud, Ud, Ud, Ud, Ud, Ud, Ud, Ud, Ud, Ud, Ud, Ud, Ud, Ud, Ud, Ud, Ud, Ud, Ud, Ud, Ud, Ud]) _
  refine seqd rfl rfl (does_box (u := (.agg #[(Fl r7), (Fl r9), (Fl r11)])) (ev rfl)) ?_; rintro _ w25 ⟨b21, rfl, hb22, hB23, E24⟩
  have n26 : b14 < b21 := Nat.lt_of_lt_of_le (Blk.lt hB16) hb22
  have g27 : w.heap.size ≤ b21 := Nat.le_trans (Below.size X20) hb22
  change Blk _ _ [(Fl r7), (Fl r9), (Fl r11)] at hB23
  have X28 := Ext.gr X20 E24
  show wpList _ _ _ _ (fr [(.agg #[(Fl r1), (Fl r3), (Fl r5)]), (.agg #[(Fl r7), (Fl r9), (Fl r11)]), (Pt b14 0), (Pt b21 0), Ud, Ud, Ud, Ud, Ud, Ud, Ud, Ud, Ud, Ud, Ud, Ud, Ud, Ud, Ud, Ud, Ud, Ud, Ud, Ud, Ud, Ud, Ud, Ud, Ud, Ud, Ud, Ud, Ud]) _
  refine seqd rfl rfl (does_alloc z26) ?_; rintro _ w33 ⟨b29, rfl, hb30, hB31, E32⟩
  have n34 : b14 < b29 := Nat.lt_of_lt_of_le (Blk.lt (hB16.ext E24)) hb30
  have n35 : b21 < b29 := Nat.lt_of_lt_of_le (Blk.lt hB23) hb30
  have g36 : w.heap.size ≤ b29 := Nat.le_trans (Below.size X28) hb30
  change Blk _ _ [(Fl 0), (Fl 0), (Fl 0)] at hB31
  have X37 := Ext.gr X28 E32
  show wpList _ _ _ _ (fr [(.agg #[(Fl r1), (Fl r3), (Fl r5)]), (.agg #[(Fl r7), (Fl r9), (Fl r11)]), (Pt b14 0), (Pt b21 0), (Pt b29 0), Ud, Ud, Ud, Ud, Ud, Ud, Ud, Ud, Ud, Ud, Ud, Ud, Ud, Ud, Ud, Ud, Ud, Ud, Ud, Ud, Ud, Ud, Ud, Ud, Ud, Ud, Ud, Ud]) _
  refine wpList_nil (hK13 _ _ ?_)
  refine wp_seq_k fun K38 hK38 => ?_
  refine region_draw (
    [Fact.pure [] (fun v => v = (Pt b14 1)),
    Fact.pure [5] (fun v => v = (Fl r3)),
    Fact.pure [] (fun v => v = (Pt b21 2)),
    Fact.pure [7] (fun v => v = (Fl r11)),
    Fact.pure [] (fun v => v = (Pt b14 2)),
    Fact.pure [9] (fun v => v = (Fl r5)),
    Fact.pure [] (fun v => v = (Pt b21 1)),
    Fact.pure [11] (fun v => v = (Fl r9)),
    Fact.pure [6, 8, 10, 12] (fun v => ∃ r_1 : Nat, v = (Fl r_1) ∧ cf .f32 r_1 = fop .sub .f32 (fop .mul .f32 (cf .f32 r3) (cf .f32 r11)) (fop .mul .f32 (cf .f32 r5) (cf .f32 r9))),
    Fact.pure [] (fun v => v = (Pt b14 2)),
    Fact.pure [14] (fun v => v = (Fl r5)),
    Fact.pure [] (fun v => v = (Pt b21 0)),
    Fact.pure [16] (fun v => v = (Fl r7)),
    Fact.pure [] (fun v => v = (Pt b14 0)),
    Fact.pure [18] (fun v => v = (Fl r1)),
    Fact.pure [] (fun v => v = (Pt b21 2)),
    Fact.pure [20] (fun v => v = (Fl r11)),
    Fact.pure [15, 17, 19, 21] (fun v => ∃ r_1 : Nat, v = (Fl r_1) ∧ cf .f32 r_1 = fop .sub .f32 (fop .mul .f32 (cf .f32 r5) (cf .f32 r7)) (fop .mul .f32 (cf .f32 r1) (cf .f32 r11))),
    Fact.pure [] (fun v => v = (Pt b14 0)),
    Fact.pure [23] (fun v => v = (Fl r1)),
    Fact.pure [] (fun v => v = (Pt b21 1)),
    Fact.pure [25] (fun v => v = (Fl r9)),
    Fact.pure [] (fun v => v = (Pt b14 1)),
    Fact.pure [27] (fun v => v = (Fl r3)),
    Fact.pure [] (fun v => v = (Pt b21 0)),
    Fact.pure [29] (fun v => v = (Fl r7)),
    Fact.pure [24, 26, 28, 30] (fun v => ∃ r_1 : Nat, v = (Fl r_1) ∧ cf .f32 r_1 = fop .sub .f32 (fop .mul .f32 (cf .f32 r1) (cf .f32 r9)) (fop .mul .f32 (cf .f32 r3) (cf .f32 r7))),
    Fact.pure [13, 22, 31] (fun v => ∃ r_1 : Nat, ∃ r_2 : Nat, ∃ r_3 : Nat, v = (.agg #[(Fl r_1), (Fl r_2), (Fl r_3)]) ∧ cf .f32 r_1 = fop .sub .f32 (fop .mul .f32 (cf .f32 r3) (cf .f32 r11)) (fop .mul .f32 (cf .f32 r5) (cf .f32 r9)) ∧ cf .f32 r_2 = fop .sub .f32 (fop .mul .f32 (cf .f32 r5) (cf .f32 r7)) (fop .mul .f32 (cf .f32 r1) (cf .f32 r11)) ∧ cf .f32 r_3 = fop .sub .f32 (fop .mul .f32 (cf .f32 r1) (cf .f32 r9)) (fop .mul .f32 (cf .f32 r3) (cf .f32 r7)))]) mixed (by kernel_rfl) (by intro _ _ d _ _ h; cases d <;> exact h) ?_
  obtain ⟨w39, hw41⟩ : ∃ w', w' = World.drew w33 := ⟨_, rfl⟩; rw [← hw41]; have E40 : Ext w33 w39 := by rw [hw41]; exact Ext.draw _
  clear hw41
  have X42 := Ext.gr X37 E40
  refine RW_d (fun v43 => [(.agg #[(Fl r1), (Fl r3), (Fl r5)]), (.agg #[(Fl r7), (Fl r9), (Fl r11)]), (Pt b14 0), (Pt b21 0), (Pt b29 0), v43, Ud, Ud, Ud, Ud, Ud, Ud, Ud, Ud, Ud, Ud, Ud, Ud, Ud, Ud, Ud, Ud, Ud, Ud, Ud, Ud, Ud, Ud, Ud, Ud, Ud, Ud, Ud]) rfl (fun _ => rfl) (fun u hu hF => ?_) (fun v43 => ?_)
  · clear hF
    refine doesG_un rfl ?_
    refine (does_fieldAddr (ev rfl) fa26_1).mono ?_; rintro _ _ ⟨rfl, rfl⟩
    exact ⟨rfl, Ext.refl _⟩
  refine RW_d (fun v44 => [(.agg #[(Fl r1), (Fl r3), (Fl r5)]), (.agg #[(Fl r7), (Fl r9), (Fl r11)]), (Pt b14 0), (Pt b21 0), (Pt b29 0), v43, v44, Ud, Ud, Ud, Ud, Ud, Ud, Ud, Ud, Ud, Ud, Ud, Ud, Ud, Ud, Ud, Ud, Ud, Ud, Ud, Ud, Ud, Ud, Ud, Ud, Ud, Ud]) rfl (fun _ => rfl) (fun u hu hF => ?_) (fun v44 => ?_)
  · have h5_ : v43 = (Pt b14 1) := hF.1
    clear hF
    refine doesG_un rfl ?_
    obtain rfl := h5_
    refine (does_load (u := (Fl r3)) (ev rfl) Try.isAgg24 (Cells.at (Blk.cells ((((hB16.ext E24).ext E32).ext E40).ext hu)) 1 rfl)).mono ?_; rintro _ _ ⟨rfl, rfl⟩
    exact ⟨rfl, Ext.refl _⟩
  refine RW_d (fun v45 => [(.agg #[(Fl r1), (Fl r3), (Fl r5)]), (.agg #[(Fl r7), (Fl r9), (Fl r11)]), (Pt b14 0), (Pt b21 0), (Pt b29 0), v43, v44, v45, Ud, Ud, Ud, Ud, Ud, Ud, Ud, Ud, Ud, Ud, Ud, Ud, Ud, Ud, Ud, Ud, Ud, Ud, Ud, Ud, Ud, Ud, Ud, Ud, Ud]) rfl (fun _ => rfl) (fun u hu hF => ?_) (fun v45 => ?_)
  · clear hF
    refine doesG_un rfl ?_
    refine (does_fieldAddr (ev rfl) fa26_2).mono ?_; rintro _ _ ⟨rfl, rfl⟩
    exact ⟨rfl, Ext.refl _⟩
  refine RW_d (fun v46 => [(.agg #[(Fl r1), (Fl r3), (Fl r5)]), (.agg #[(Fl r7), (Fl r9), (Fl r11)]), (Pt b14 0), (Pt b21 0), (Pt b29 0), v43, v44, v45, v46, Ud, Ud, Ud, Ud, Ud, Ud, Ud, Ud, Ud, Ud, Ud, Ud, Ud, Ud, Ud, Ud, Ud, Ud, Ud, Ud, Ud, Ud, Ud, Ud]) rfl (fun _ => rfl) (fun u hu hF => ?_) (fun v46 => ?_)
  · have h7_ : v45 = (Pt b21 2) := hF.1
    clear hF
    refine doesG_un rfl ?_
    obtain rfl := h7_
    refine (does_load (u := (Fl r11)) (ev rfl) Try.isAgg24 (Cells.at (Blk.cells (((hB23.ext E32).ext E40).ext hu)) 2 rfl)).mono ?_; rintro _ _ ⟨rfl, rfl⟩
    exact ⟨rfl, Ext.refl _⟩
  refine RW_d (fun v47 => [(.agg #[(Fl r1), (Fl r3), (Fl r5)]), (.agg #[(Fl r7), (Fl r9), (Fl r11)]), (Pt b14 0), (Pt b21 0), (Pt b29 0), v43, v44, v45, v46, v47, Ud, Ud, Ud, Ud, Ud, Ud, Ud, Ud, Ud, Ud, Ud, Ud, Ud, Ud, Ud, Ud, Ud, Ud, Ud, Ud, Ud, Ud, Ud]) rfl (fun _ => rfl) (fun u hu hF => ?_) (fun v47 => ?_)
  · clear hF
    refine doesG_un rfl ?_
    refine (does_fieldAddr (ev rfl) fa26_2).mono ?_; rintro _ _ ⟨rfl, rfl⟩
    exact ⟨rfl, Ext.refl _⟩
  refine RW_d (fun v48 => [(.agg #[(Fl r1), (Fl r3), (Fl r5)]), (.agg #[(Fl r7), (Fl r9), (Fl r11)]), (Pt b14 0), (Pt b21 0), (Pt b29 0), v43, v44, v45, v46, v47, v48, Ud, Ud, Ud, Ud, Ud, Ud, Ud, Ud, Ud, Ud, Ud, Ud, Ud, Ud, Ud, Ud, Ud, Ud, Ud, Ud, Ud, Ud]) rfl (fun _ => rfl) (fun u hu hF => ?_) (fun v48 => ?_)
  · have h9_ : v47 = (Pt b14 2) := hF.1
    clear hF
    refine doesG_un rfl ?_
    obtain rfl := h9_
    refine (does_load (u := (Fl r5)) (ev rfl) Try.isAgg24 (Cells.at (Blk.cells ((((hB16.ext E24).ext E32).ext E40).ext hu)) 2 rfl)).mono ?_; rintro _ _ ⟨rfl, rfl⟩
    exact ⟨rfl, Ext.refl _⟩
  refine RW_d (fun v49 => [(.agg #[(Fl r1), (Fl r3), (Fl r5)]), (.agg #[(Fl r7), (Fl r9), (Fl r11)]), (Pt b14 0), (Pt b21 0), (Pt b29 0), v43, v44, v45, v46, v47, v48, v49, Ud, Ud, Ud, Ud, Ud, Ud, Ud, Ud, Ud, Ud, Ud, Ud, Ud, Ud, Ud, Ud, Ud, Ud, Ud, Ud, Ud]) rfl (fun _ => rfl) (fun u hu hF => ?_) (fun v49 => ?_)
  · clear hF
    refine doesG_un rfl ?_
    refine (does_fieldAddr (ev rfl) fa26_1).mono ?_; rintro _ _ ⟨rfl, rfl⟩
    exact ⟨rfl, Ext.refl _⟩
  refine RW_d (fun v50 => [(.agg #[(Fl r1), (Fl r3), (Fl r5)]), (.agg #[(Fl r7), (Fl r9), (Fl r11)]), (Pt b14 0), (Pt b21 0), (Pt b29 0), v43, v44, v45, v46, v47, v48, v49, v50, Ud, Ud, Ud, Ud, Ud, Ud, Ud, Ud, Ud, Ud, Ud, Ud, Ud, Ud, Ud, Ud, Ud, Ud, Ud, Ud]) rfl (fun _ => rfl) (fun u hu hF => ?_) (fun v50 => ?_)
  · have h11_ : v49 = (Pt b21 1) := hF.1
    clear hF
    refine doesG_un rfl ?_
    obtain rfl := h11_
    refine (does_load (u := (Fl r9)) (ev rfl) Try.isAgg24 (Cells.at (Blk.cells (((hB23.ext E32).ext E40).ext hu)) 1 rfl)).mono ?_; rintro _ _ ⟨rfl, rfl⟩
    exact ⟨rfl, Ext.refl _⟩
  refine RW_d (fun v51 => [(.agg #[(Fl r1), (Fl r3), (Fl r5)]), (.agg #[(Fl r7), (Fl r9), (Fl r11)]), (Pt b14 0), (Pt b21 0), (Pt b29 0), v43, v44, v45, v46, v47, v48, v49, v50, v51, Ud, Ud, Ud, Ud, Ud, Ud, Ud, Ud, Ud, Ud, Ud, Ud, Ud, Ud, Ud, Ud, Ud, Ud, Ud]) rfl (fun _ => rfl) (fun u hu hF => ?_) (fun v51 => ?_)
  · have h6_ : v44 = (Fl r3) := hF.1
    have h8_ : v46 = (Fl r11) := hF.2.1
    have h10_ : v48 = (Fl r5) := hF.2.2.1
    have h12_ : v50 = (Fl r9) := hF.2.2.2.1
    clear hF
    refine doesG_un rfl ?_
    obtain rfl := h6_
    obtain rfl := h8_
    obtain rfl := h10_
    obtain rfl := h12_
    refine (does_call (args := #[(Fl r3), (Fl r11), (Fl r5), (Fl r9)]) cal114 (evs rfl) (c_impl_crossed r3 r11 r5 r9 _)).mono ?_; rintro v u' ⟨hx, ⟨rn1, hv, k0⟩⟩
    exact ⟨⟨rn1, hv, (by simp only [k0])⟩, hx⟩
  refine RW_d (fun v52 => [(.agg #[(Fl r1), (Fl r3), (Fl r5)]), (.agg #[(Fl r7), (Fl r9), (Fl r11)]), (Pt b14 0), (Pt b21 0), (Pt b29 0), v43, v44, v45, v46, v47, v48, v49, v50, v51, v52, Ud, Ud, Ud, Ud, Ud, Ud, Ud, Ud, Ud, Ud, Ud, Ud, Ud, Ud, Ud, Ud, Ud, Ud]) rfl (fun _ => rfl) (fun u hu hF => ?_) (fun v52 => ?_)
  · clear hF
    refine doesG_un rfl ?_
    refine (does_fieldAddr (ev rfl) fa26_2).mono ?_; rintro _ _ ⟨rfl, rfl⟩
    exact ⟨rfl, Ext.refl _⟩
  refine RW_d (fun v53 => [(.agg #[(Fl r1), (Fl r3), (Fl r5)]), (.agg #[(Fl r7), (Fl r9), (Fl r11)]), (Pt b14 0), (Pt b21 0), (Pt b29 0), v43, v44, v45, v46, v47, v48, v49, v50, v51, v52, v53, Ud, Ud, Ud, Ud, Ud, Ud, Ud, Ud, Ud, Ud, Ud, Ud, Ud, Ud, Ud, Ud, Ud]) rfl (fun _ => rfl) (fun u hu hF => ?_) (fun v53 => ?_)
  · have h14_ : v52 = (Pt b14 2) := hF.1
    clear hF
    refine doesG_un rfl ?_
    obtain rfl := h14_
    refine (does_load (u := (Fl r5)) (ev rfl) Try.isAgg24 (Cells.at (Blk.cells ((((hB16.ext E24).ext E32).ext E40).ext hu)) 2 rfl)).mono ?_; rintro _ _ ⟨rfl, rfl⟩
    exact ⟨rfl, Ext.refl _⟩
  refine RW_d (fun v54 => [(.agg #[(Fl r1), (Fl r3), (Fl r5)]), (.agg #[(Fl r7), (Fl r9), (Fl r11)]), (Pt b14 0), (Pt b21 0), (Pt b29 0), v43, v44, v45, v46, v47, v48, v49, v50, v51, v52, v53, v54, Ud, Ud, Ud, Ud, Ud, Ud, Ud, Ud, Ud, Ud, Ud, Ud, Ud, Ud, Ud, Ud]) rfl (fun _ => rfl) (fun u hu hF => ?_) (fun v54 => ?_)
  · clear hF
    refine doesG_un rfl ?_
    refine (does_fieldAddr (ev rfl) fa26_0).mono ?_; rintro _ _ ⟨rfl, rfl⟩
    exact ⟨rfl, Ext.refl _⟩
  refine RW_d (fun v55 => [(.agg #[(Fl r1), (Fl r3), (Fl r5)]), (.agg #[(Fl r7), (Fl r9), (Fl r11)]), (Pt b14 0), (Pt b21 0), (Pt b29 0), v43, v44, v45, v46, v47, v48, v49, v50, v51, v52, v53, v54, v55, Ud, Ud, Ud, Ud, Ud, Ud, Ud, Ud, Ud, Ud, Ud, Ud, Ud, Ud, Ud]) rfl (fun _ => rfl) (fun u hu hF => ?_) (fun v55 => ?_)
  · have h16_ : v54 = (Pt b21 0) := hF.1
    clear hF
    refine doesG_un rfl ?_
    obtain rfl := h16_
    refine (does_load (u := (Fl r7)) (ev rfl) Try.isAgg24 (Cells.at (Blk.cells (((hB23.ext E32).ext E40).ext hu)) 0 rfl)).mono ?_; rintro _ _ ⟨rfl, rfl⟩
    exact ⟨rfl, Ext.refl _⟩
  refine RW_d (fun v56 => [(.agg #[(Fl r1), (Fl r3), (Fl r5)]), (.agg #[(Fl r7), (Fl r9), (Fl r11)]), (Pt b14 0), (Pt b21 0), (Pt b29 0), v43, v44, v45, v46, v47, v48, v49, v50, v51, v52, v53, v54, v55, v56, Ud, Ud, Ud, Ud, Ud, Ud, Ud, Ud, Ud, Ud, Ud, Ud, Ud, Ud]) rfl (fun _ => rfl) (fun u hu hF => ?_) (fun v56 => ?_)
  · clear hF
    refine doesG_un rfl ?_
    refine (does_fieldAddr (ev rfl) fa26_0).mono ?_; rintro _ _ ⟨rfl, rfl⟩
    exact ⟨rfl, Ext.refl _⟩
  refine RW_d (fun v57 => [(.agg #[(Fl r1), (Fl r3), (Fl r5)]), (.agg #[(Fl r7), (Fl r9), (Fl r11)]), (Pt b14 0), (Pt b21 0), (Pt b29 0), v43, v44, v45, v46, v47, v48, v49, v50, v51, v52, v53, v54, v55, v56, v57, Ud, Ud, Ud, Ud, Ud, Ud, Ud, Ud, Ud, Ud, Ud, Ud, Ud]) rfl (fun _ => rfl) (fun u hu hF => ?_) (fun v57 => ?_)
  · have h18_ : v56 = (Pt b14 0) := hF.1
    clear hF
    refine doesG_un rfl ?_
    obtain rfl := h18_
    refine (does_load (u := (Fl r1)) (ev rfl) Try.isAgg24 (Cells.at (Blk.cells ((((hB16.ext E24).ext E32).ext E40).ext hu)) 0 rfl)).mono ?_; rintro _ _ ⟨rfl, rfl⟩
    exact ⟨rfl, Ext.refl _⟩
  refine RW_d (fun v58 => [(.agg #[(Fl r1), (Fl r3), (Fl r5)]), (.agg #[(Fl r7), (Fl r9), (Fl r11)]), (Pt b14 0), (Pt b21 0), (Pt b29 0), v43, v44, v45, v46, v47, v48, v49, v50, v51, v52, v53, v54, v55, v56, v57, v58, Ud, Ud, Ud, Ud, Ud, Ud, Ud, Ud, Ud, Ud, Ud, Ud]) rfl (fun _ => rfl) (fun u hu hF => ?_) (fun v58 => ?_)
  · clear hF
    refine doesG_un rfl ?_
    refine (does_fieldAddr (ev rfl) fa26_2).mono ?_; rintro _ _ ⟨rfl, rfl⟩
    exact ⟨rfl, Ext.refl _⟩
  refine RW_d (fun v59 => [(.agg #[(Fl r1), (Fl r3), (Fl r5)]), (.agg #[(Fl r7), (Fl r9), (Fl r11)]), (Pt b14 0), (Pt b21 0), (Pt b29 0), v43, v44, v45, v46, v47, v48, v49, v50, v51, v52, v53, v54, v55, v56, v57, v58, v59, Ud, Ud, Ud, Ud, Ud, Ud, Ud, Ud, Ud, Ud, Ud]) rfl (fun _ => rfl) (fun u hu hF => ?_) (fun v59 => ?_)
  · have h20_ : v58 = (Pt b21 2) := hF.1
    clear hF
    refine doesG_un rfl ?_
    obtain rfl := h20_
    refine (does_load (u := (Fl r11)) (ev rfl) Try.isAgg24 (Cells.at (Blk.cells (((hB23.ext E32).ext E40).ext hu)) 2 rfl)).mono ?_; rintro _ _ ⟨rfl, rfl⟩
    exact ⟨rfl, Ext.refl _⟩
  refine RW_d (fun v60 => [(.agg #[(Fl r1), (Fl r3), (Fl r5)]), (.agg #[(Fl r7), (Fl r9), (Fl r11)]), (Pt b14 0), (Pt b21 0), (Pt b29 0), v43, v44, v45, v46, v47, v48, v49, v50, v51, v52, v53, v54, v55, v56, v57, v58, v59, v60, Ud, Ud, Ud, Ud, Ud, Ud, Ud, Ud, Ud, Ud]) rfl (fun _ => rfl) (fun u hu hF => ?_) (fun v60 => ?_)
  · have h15_ : v53 = (Fl r5) := hF.1
    have h17_ : v55 = (Fl r7) := hF.2.1
    have h19_ : v57 = (Fl r1) := hF.2.2.1
    have h21_ : v59 = (Fl r11) := hF.2.2.2.1
    clear hF
    refine doesG_un rfl ?_
    obtain rfl := h15_
    obtain rfl := h17_
    obtain rfl := h19_
    obtain rfl := h21_
    refine (does_call (args := #[(Fl r5), (Fl r7), (Fl r1), (Fl r11)]) cal114 (evs rfl) (c_impl_crossed r5 r7 r1 r11 _)).mono ?_; rintro v u' ⟨hx, ⟨rn1, hv, k0⟩⟩
    exact ⟨⟨rn1, hv, (by simp only [k0])⟩, hx⟩
  refine RW_d (fun v61 => [(.agg #[(Fl r1), (Fl r3), (Fl r5)]), (.agg #[(Fl r7), (Fl r9), (Fl r11)]), (Pt b14 0), (Pt b21 0), (Pt b29 0), v43, v44, v45, v46, v47, v48, v49, v50, v51, v52, v53, v54, v55, v56, v57, v58, v59, v60, v61, Ud, Ud, Ud, Ud, Ud, Ud, Ud, Ud, Ud]) rfl (fun _ => rfl) (fun u hu hF => ?_) (fun v61 => ?_)
  · clear hF
    refine doesG_un rfl ?_
    refine (does_fieldAddr (ev rfl) fa26_0).mono ?_; rintro _ _ ⟨rfl, rfl⟩
    exact ⟨rfl, Ext.refl _⟩
  refine RW_d (fun v62 => [(.agg #[(Fl r1), (Fl r3), (Fl r5)]), (.agg #[(Fl r7), (Fl r9), (Fl r11)]), (Pt b14 0), (Pt b21 0), (Pt b29 0), v43, v44, v45, v46, v47, v48, v49, v50, v51, v52, v53, v54, v55, v56, v57, v58, v59, v60, v61, v62, Ud, Ud, Ud, Ud, Ud, Ud, Ud, Ud]) rfl (fun _ => rfl) (fun u hu hF => ?_) (fun v62 => ?_)
  · have h23_ : v61 = (Pt b14 0) := hF.1
    clear hF
    refine doesG_un rfl ?_
    obtain rfl := h23_
    refine (does_load (u := (Fl r1)) (ev rfl) Try.isAgg24 (Cells.at (Blk.cells ((((hB16.ext E24).ext E32).ext E40).ext hu)) 0 rfl)).mono ?_; rintro _ _ ⟨rfl, rfl⟩
    exact ⟨rfl, Ext.refl _⟩
  refine RW_d (fun v63 => [(.agg #[(Fl r1), (Fl r3), (Fl r5)]), (.agg #[(Fl r7), (Fl r9), (Fl r11)]), (Pt b14 0), (Pt b21 0), (Pt b29 0), v43, v44, v45, v46, v47, v48, v49, v50, v51, v52, v53, v54, v55, v56, v57, v58, v59, v60, v61, v62, v63, Ud, Ud, Ud, Ud, Ud, Ud, Ud]) rfl (fun _ => rfl) (fun u hu hF => ?_) (fun v63 => ?_)
  · clear hF
    refine doesG_un rfl ?_
    refine (does_fieldAddr (ev rfl) fa26_1).mono ?_; rintro _ _ ⟨rfl, rfl⟩
    exact ⟨rfl, Ext.refl _⟩
  refine RW_d (fun v64 => [(.agg #[(Fl r1), (Fl r3), (Fl r5)]), (.agg #[(Fl r7), (Fl r9), (Fl r11)]), (Pt b14 0), (Pt b21 0), (Pt b29 0), v43, v44, v45, v46, v47, v48, v49, v50, v51, v52, v53, v54, v55, v56, v57, v58, v59, v60, v61, v62, v63, v64, Ud, Ud, Ud, Ud, Ud, Ud]) rfl (fun _ => rfl) (fun u hu hF => ?_) (fun v64 => ?_)
  · have h25_ : v63 = (Pt b21 1) := hF.1
    clear hF
    refine doesG_un rfl ?_
    obtain rfl := h25_
    refine (does_load (u := (Fl r9)) (ev rfl) Try.isAgg24 (Cells.at (Blk.cells (((hB23.ext E32).ext E40).ext hu)) 1 rfl)).mono ?_; rintro _ _ ⟨rfl, rfl⟩
    exact ⟨rfl, Ext.refl _⟩
  refine RW_d (fun v65 => [(.agg #[(Fl r1), (Fl r3), (Fl r5)]), (.agg #[(Fl r7), (Fl r9), (Fl r11)]), (Pt b14 0), (Pt b21 0), (Pt b29 0), v43, v44, v45, v46, v47, v48, v49, v50, v51, v52, v53, v54, v55, v56, v57, v58, v59, v60, v61, v62, v63, v64, v65, Ud, Ud, Ud, Ud, Ud]) rfl (fun _ => rfl) (fun u hu hF => ?_) (fun v65 => ?_)
  · clear hF
    refine doesG_un rfl ?_
    refine (does_fieldAddr (ev rfl) fa26_1).mono ?_; rintro _ _ ⟨rfl, rfl⟩
    exact ⟨rfl, Ext.refl _⟩
  refine RW_d (fun v66 => [(.agg #[(Fl r1), (Fl r3), (Fl r5)]), (.agg #[(Fl r7), (Fl r9), (Fl r11)]), (Pt b14 0), (Pt b21 0), (Pt b29 0), v43, v44, v45, v46, v47, v48, v49, v50, v51, v52, v53, v54, v55, v56, v57, v58, v59, v60, v61, v62, v63, v64, v65, v66, Ud, Ud, Ud, Ud]) rfl (fun _ => rfl) (fun u hu hF => ?_) (fun v66 => ?_)
  · have h27_ : v65 = (Pt b14 1) := hF.1
    clear hF
    refine doesG_un rfl ?_
    obtain rfl := h27_
    refine (does_load (u := (Fl r3)) (ev rfl) Try.isAgg24 (Cells.at (Blk.cells ((((hB16.ext E24).ext E32).ext E40).ext hu)) 1 rfl)).mono ?_; rintro _ _ ⟨rfl, rfl⟩
    exact ⟨rfl, Ext.refl _⟩
  refine RW_d (fun v67 => [(.agg #[(Fl r1), (Fl r3), (Fl r5)]), (.agg #[(Fl r7), (Fl r9), (Fl r11)]), (Pt b14 0), (Pt b21 0), (Pt b29 0), v43, v44, v45, v46, v47, v48, v49, v50, v51, v52, v53, v54, v55, v56, v57, v58, v59, v60, v61, v62, v63, v64, v65, v66, v67, Ud, Ud, Ud]) rfl (fun _ => rfl) (fun u hu hF => ?_) (fun v67 => ?_)
  · clear hF
    refine doesG_un rfl ?_
    refine (does_fieldAddr (ev rfl) fa26_0).mono ?_; rintro _ _ ⟨rfl, rfl⟩
    exact ⟨rfl, Ext.refl _⟩
  refine RW_d (fun v68 => [(.agg #[(Fl r1), (Fl r3), (Fl r5)]), (.agg #[(Fl r7), (Fl r9), (Fl r11)]), (Pt b14 0), (Pt b21 0), (Pt b29 0), v43, v44, v45, v46, v47, v48, v49, v50, v51, v52, v53, v54, v55, v56, v57, v58, v59, v60, v61, v62, v63, v64, v65, v66, v67, v68, Ud, Ud]) rfl (fun _ => rfl) (fun u hu hF => ?_) (fun v68 => ?_)
  · have h29_ : v67 = (Pt b21 0) := hF.1
    clear hF
    refine doesG_un rfl ?_
    obtain rfl := h29_
    refine (does_load (u := (Fl r7)) (ev rfl) Try.isAgg24 (Cells.at (Blk.cells (((hB23.ext E32).ext E40).ext hu)) 0 rfl)).mono ?_; rintro _ _ ⟨rfl, rfl⟩
    exact ⟨rfl, Ext.refl _⟩
  refine RW_d (fun v69 => [(.agg #[(Fl r1), (Fl r3), (Fl r5)]), (.agg #[(Fl r7), (Fl r9), (Fl r11)]), (Pt b14 0), (Pt b21 0), (Pt b29 0), v43, v44, v45, v46, v47, v48, v49, v50, v51, v52, v53, v54, v55, v56, v57, v58, v59, v60, v61, v62, v63, v64, v65, v66, v67, v68, v69, Ud]) rfl (fun _ => rfl) (fun u hu hF => ?_) (fun v69 => ?_)
  · have h24_ : v62 = (Fl r1) := hF.1
    have h26_ : v64 = (Fl r9) := hF.2.1
    have h28_ : v66 = (Fl r3) := hF.2.2.1
    have h30_ : v68 = (Fl r7) := hF.2.2.2.1
    clear hF
    refine doesG_un rfl ?_
    obtain rfl := h24_
    obtain rfl := h26_
    obtain rfl := h28_
    obtain rfl := h30_
    refine (does_call (args := #[(Fl r1), (Fl r9), (Fl r3), (Fl r7)]) cal114 (evs rfl) (c_impl_crossed r1 r9 r3 r7 _)).mono ?_; rintro v u' ⟨hx, ⟨rn1, hv, k0⟩⟩
    exact ⟨⟨rn1, hv, (by simp only [k0])⟩, hx⟩
  refine RW_d (fun v70 => [(.agg #[(Fl r1), (Fl r3), (Fl r5)]), (.agg #[(Fl r7), (Fl r9), (Fl r11)]), (Pt b14 0), (Pt b21 0), (Pt b29 0), v43, v44, v45, v46, v47, v48, v49, v50, v51, v52, v53, v54, v55, v56, v57, v58, v59, v60, v61, v62, v63, v64, v65, v66, v67, v68, v69, v70]) rfl (fun _ => rfl) (fun u hu hF => ?_) (fun v70 => ?_)
  · have h13_ : ∃ r_1 : Nat, v51 = (Fl r_1) ∧ cf .f32 r_1 = fop .sub .f32 (fop .mul .f32 (cf .f32 r3) (cf .f32 r11)) (fop .mul .f32 (cf .f32 r5) (cf .f32 r9)) := hF.1
    have h22_ : ∃ r_1 : Nat, v60 = (Fl r_1) ∧ cf .f32 r_1 = fop .sub .f32 (fop .mul .f32 (cf .f32 r5) (cf .f32 r7)) (fop .mul .f32 (cf .f32 r1) (cf .f32 r11)) := hF.2.1
    have h31_ : ∃ r_1 : Nat, v69 = (Fl r_1) ∧ cf .f32 r_1 = fop .sub .f32 (fop .mul .f32 (cf .f32 r1) (cf .f32 r9)) (fop .mul .f32 (cf .f32 r3) (cf .f32 r7)) := hF.2.2.1
    clear hF
    refine doesG_un rfl ?_
    obtain ⟨r13_1, rfl, h13_2⟩ := h13_
    obtain ⟨r22_1, rfl, h22_2⟩ := h22_
    obtain ⟨r31_1, rfl, h31_2⟩ := h31_
    refine (does_build (parts' := [(0, (Fl r13_1)), (1, (Fl r22_1)), (2, (Fl r31_1))]) (cells := #[(Fl r13_1), (Fl r22_1), (Fl r31_1)]) (evp rfl) (by kernel_rfl)).mono ?_; rintro _ _ ⟨rfl, rfl⟩
    exact ⟨⟨r13_1, r22_1, r31_1, rfl, (by simp only [h13_2, h22_2, h31_2]), (by simp only [h13_2, h22_2, h31_2]), (by simp only [h13_2, h22_2, h31_2])⟩, Ext.refl _⟩
  refine RW_fin ?_; intro w71 E72 hP73
  obtain ⟨⟨⟨⟨⟨⟨⟨⟨⟨⟨⟨⟨⟨⟨⟨⟨⟨⟨⟨⟨⟨⟨⟨⟨⟨⟨⟨⟨-, -⟩, -⟩, -⟩, -⟩, -⟩, -⟩, -⟩, -⟩, -⟩, -⟩, -⟩, -⟩, -⟩, -⟩, -⟩, -⟩, -⟩, -⟩, -⟩, -⟩, -⟩, -⟩, -⟩, -⟩, -⟩, -⟩, -⟩, q74⟩ := hP73
  have X75 := Ext.gr X42 E72
  have q74 : ∃ r_1 : Nat, ∃ r_2 : Nat, ∃ r_3 : Nat, v70 = (.agg #[(Fl r_1), (Fl r_2), (Fl r_3)]) ∧ cf .f32 r_1 = fop .sub .f32 (fop .mul .f32 (cf .f32 r3) (cf .f32 r11)) (fop .mul .f32 (cf .f32 r5) (cf .f32 r9)) ∧ cf .f32 r_2 = fop .sub .f32 (fop .mul .f32 (cf .f32 r5) (cf .f32 r7)) (fop .mul .f32 (cf .f32 r1) (cf .f32 r11)) ∧ cf .f32 r_3 = fop .sub .f32 (fop .mul .f32 (cf .f32 r1) (cf .f32 r9)) (fop .mul .f32 (cf .f32 r3) (cf .f32 r7)) := q74
  obtain ⟨r76, r78, r80, rfl, h77, h79, h81⟩ := q74
  show wpList _ _ _ _ (fr [(.agg #[(Fl r1), (Fl r3), (Fl r5)]), (.agg #[(Fl r7), (Fl r9), (Fl r11)]), (Pt b14 0), (Pt b21 0), (Pt b29 0), v43, v44, v45, v46, v47, v48, v49, v50, v51, v52, v53, v54, v55, v56, v57, v58, v59, v60, v61, v62, v63, v64, v65, v66, v67, v68, v69, (.agg #[(Fl r76), (Fl r78), (Fl r80)])]) _
  refine seqn rfl rfl (does_store (n := 3) (cs := [(Fl 0), (Fl 0), (Fl 0)]) (u := (.agg #[(Fl r76), (Fl r78), (Fl r80)])) (ev rfl) (ev rfl) Try.sizeOf26 rfl ((hB31.ext E40).ext E72) (Nat.le_of_ble_eq_true rfl) rfl) ?_; rintro _ w84 ⟨rfl, W82, hB83⟩
  change Blk _ _ [(Fl r76), (Fl r78), (Fl r80)] at hB83
  have X85 := Below.wr X75 W82 g36
  refine wpList_nil (hK38 _ _ ?_)
  refine wp_ret ?_
  refine ret_val (v := (.agg #[(Fl r76), (Fl r78), (Fl r80)])) (res_C rfl (slot rfl) (run_loadAgg (cs := [(Fl r76), (Fl r78), (Fl r80)]) Try.isAgg26 Try.sizeOf26 (Blk.cells hB83) rfl)) X85 ?_
  have x86 : cf .f32 r76 = (crossF A_a A_b).x := by first | with_reducible rfl | (simp only [crossF, h2, h4, h6, h8, h10, h12, h77, h79, h81]; done) | (simp [crossF, h2, h4, h6, h8, h10, h12, h77, h79, h81]; done) | rfl
  have x87 : cf .f32 r78 = (crossF A_a A_b).y := by first | with_reducible rfl | (simp only [crossF, h2, h4, h6, h8, h10, h12, h77, h79, h81]; done) | (simp [crossF, h2, h4, h6, h8, h10, h12, h77, h79, h81]; done) | rfl
  have x88 : cf .f32 r80 = (crossF A_a A_b).z := by first | with_reducible rfl | (simp only [crossF, h2, h4, h6, h8, h10, h12, h77, h79, h81]; done) | (simp [crossF, h2, h4, h6, h8, h10, h12, h77, h79, h81]; done) | rfl
  exact ⟨[(Fl r76), (Fl r78), (Fl r80)], rfl, ⟨r76, r78, r80, rfl, x86, x87, x88⟩⟩

/- (*impl.Camera).axes -/
theorem c_impl_Camera_axes (c_b : Nat) (c_o : Nat) (c : List Value) (A_c : CamT) (w : World) (hc_c : Cells w c_b c_o c) (hv_c : RCamT w A_c c) : Gives Try.prog 65 #[(Pt c_b c_o)] w (fun v w' => ∃ cs_1 : List Value, ∃ cs_2 : List Value, ∃ cs_3 : List Value, v = (.tuple #[(.agg cs_1.toArray), (.agg cs_2.toArray), (.agg cs_3.toArray)]) ∧ RV3 w (rgtC A_c) cs_1 ∧ RV3 w (upC A_c) cs_2 ∧ RV3 w (fwdC A_c) cs_3) := by
  obtain ⟨r1, r3, r5, r7, r9, r11, r13, rfl, h2, h4, h6, h8, h10, h12, h14⟩ := hv_c
  refine enter [(Pt c_b c_o), Ud, Ud, Ud, Ud, Ud, Ud, Ud, Ud, Ud, Ud, Ud, Ud, Ud, Ud, Ud, Ud, Ud, Ud, Ud, Ud, Ud, Ud, Ud, Ud, Ud] Try.func65 rfl Try.ntmps65 rfl ?_
  refine wp_seq_k fun K15 hK15 => ?_
  refine wp_region_lit ?_
  refine seqd rfl rfl (does_alloc z26) ?_; rintro _ w20 ⟨b16, rfl, hb17, hB18, E19⟩
  have n21 : c_b < b16 := Nat.lt_of_lt_of_le (cell_lt (Cells.at hc_c 0 rfl)) hb17
  have g22 : w.heap.size ≤ b16 := Nat.le_trans (Below.size (Ext.refl w)) hb17
  change Blk _ _ [(Fl 0), (Fl 0), (Fl 0)] at hB18
  have X23 := Ext.gr (Ext.refl w) E19
  show wpList _ _ _ _ (fr [(Pt c_b c_o), Ud, (Pt b16 0), Ud, Ud, Ud, Ud, Ud, Ud, Ud, Ud, Ud, Ud, Ud, Ud, Ud, Ud, Ud, Ud, Ud, Ud, Ud, Ud, Ud, Ud, Ud]) _
  refine seqd rfl rfl (does_alloc z26) ?_; rintro _ w28 ⟨b24, rfl, hb25, hB26, E27⟩
  have n29 : c_b < b24 := Nat.lt_of_lt_of_le (cell_lt (Cells.at (hc_c.ext X23) 0 rfl)) hb25
  have n30 : b16 < b24 := Nat.lt_of_lt_of_le (Blk.lt hB18) hb25
  have g31 : w.heap.size ≤ b24 := Nat.le_trans (Below.size X23) hb25
  change Blk _ _ [(Fl 0), (Fl 0), (Fl 0)] at hB26
  have X32 := Ext.gr X23 E27
  show wpList _ _ _ _ (fr [(Pt c_b c_o), Ud, (Pt b16 0), (Pt b24 0), Ud, Ud, Ud, Ud, Ud, Ud, Ud, Ud, Ud, Ud, Ud, Ud, Ud, Ud, Ud, Ud, Ud, Ud, Ud, Ud, Ud, Ud]) _
  refine seqd rfl rfl (does_alloc z26) ?_; rintro _ w37 ⟨b33, rfl, hb34, hB35, E36⟩
  have n38 : c_b < b33 := Nat.lt_of_lt_of_le (cell_lt (Cells.at (hc_c.ext X32) 0 rfl)) hb34
  have n39 : b16 < b33 := Nat.lt_of_lt_of_le (Blk.lt (hB18.ext E27)) hb34
  have n40 : b24 < b33 := Nat.lt_of_lt_of_le (Blk.lt hB26) hb34
  have g41 : w.heap.size ≤ b33 := Nat.le_trans (Below.size X32) hb34
  change Blk _ _ [(Fl 0), (Fl 0), (Fl 0)] at hB35
  have X42 := Ext.gr X32 E36
  show wpList _ _ _ _ (fr [(Pt c_b c_o), Ud, (Pt b16 0), (Pt b24 0), (Pt b33 0), Ud, Ud, Ud, Ud, Ud, Ud, Ud, Ud, Ud, Ud, Ud, Ud, Ud, Ud, Ud, Ud, Ud, Ud, Ud, Ud, Ud]) _
  refine wpList_nil (hK15 _ _ ?_)
  refine wp_seq_k fun K43 hK43 => ?_
  refine region_draw (
    [Fact.pure [] (fun v => v = (Pt c_b c_o)),
    Fact.pure [7] (fun v => v = (Pt c_b c_o)),
    Fact.pure [8] (fun v => v = (Pt c_b (c_o + 3))),
    Fact.pure [9] (fun v => v = (.agg #[(Fl r7), (Fl r9), (Fl r11)])),
    Fact.pure [] (fun v => v = (Pt c_b c_o)),
    Fact.pure [11] (fun v => v = (Pt c_b c_o)),
    Fact.pure [12] (fun v => v = (Pt c_b c_o)),
    Fact.pure [13] (fun v => v = (.agg #[(Fl r1), (Fl r3), (Fl r5)])),
    Fact.pure [10, 14] (fun v => ∃ cs_1 : List Value, v = (.agg cs_1.toArray) ∧ RV3 w (vsub A_c.to A_c.frm) cs_1),
    Fact.pure [15] (fun v => ∃ cs_1 : List Value, v = (.agg cs_1.toArray) ∧ RV3 w (unitF (vsub A_c.to A_c.frm)) cs_1),
    Fact.mem [] (fun v w' => ∃ b : Nat, v = .pointer (some ⟨b, 0, none⟩) ∧ w37.heap.size ≤ b ∧ Blk w' b [(Fl 0), (Fl 0), (Fl 0)]) (by rintro v w1 w2 hx ⟨b, rfl, hb, hB⟩; exact ⟨b, rfl, hb, (hB.ext hx)⟩)]) mixed (by kernel_rfl) (by intro _ _ d _ _ h; cases d <;> exact h) ?_
  obtain ⟨w44, hw46⟩ : ∃ w', w' = World.drew w37 := ⟨_, rfl⟩; rw [← hw46]; have E45 : Ext w37 w44 := by rw [hw46]; exact Ext.draw _
  clear hw46
  have X47 := Ext.gr X42 E45
  refine RW_d (fun v48 => [(Pt c_b c_o), Ud, (Pt b16 0), (Pt b24 0), (Pt b33 0), Ud, Ud, v48, Ud, Ud, Ud, Ud, Ud, Ud, Ud, Ud, Ud, Ud, Ud, Ud, Ud, Ud, Ud, Ud, Ud, Ud]) rfl (fun _ => rfl) (fun u hu hF => ?_) (fun v48 => ?_)
  · clear hF
    refine doesG_un rfl ?_
    refine (does_move (u := (Pt c_b c_o)) (ev rfl)).mono ?_; rintro _ _ ⟨rfl, rfl⟩
    exact ⟨rfl, Ext.refl _⟩
  refine RW_d (fun v49 => [(Pt c_b c_o), Ud, (Pt b16 0), (Pt b24 0), (Pt b33 0), Ud, Ud, v48, v49, Ud, Ud, Ud, Ud, Ud, Ud, Ud, Ud, Ud, Ud, Ud, Ud, Ud, Ud, Ud, Ud, Ud]) rfl (fun _ => rfl) (fun u hu hF => ?_) (fun v49 => ?_)
  · have h7_ : v48 = (Pt c_b c_o) := hF.1
    clear hF
    refine doesG_un rfl ?_
    obtain rfl := h7_
    refine (does_nilCheck (ev rfl)).mono ?_; rintro _ _ ⟨rfl, rfl⟩
    exact ⟨rfl, Ext.refl _⟩
  refine RW_d (fun v50 => [(Pt c_b c_o), Ud, (Pt b16 0), (Pt b24 0), (Pt b33 0), Ud, Ud, v48, v49, v50, Ud, Ud, Ud, Ud, Ud, Ud, Ud, Ud, Ud, Ud, Ud, Ud, Ud, Ud, Ud, Ud]) rfl (fun _ => rfl) (fun u hu hF => ?_) (fun v50 => ?_)
  · have h8_ : v49 = (Pt c_b c_o) := hF.1
    clear hF
    refine doesG_un rfl ?_
    obtain rfl := h8_
    refine (does_fieldAddr (ev rfl) fa48_1).mono ?_; rintro _ _ ⟨rfl, rfl⟩
    exact ⟨rfl, Ext.refl _⟩
  refine RW_d (fun v51 => [(Pt c_b c_o), Ud, (Pt b16 0), (Pt b24 0), (Pt b33 0), Ud, Ud, v48, v49, v50, v51, Ud, Ud, Ud, Ud, Ud, Ud, Ud, Ud, Ud, Ud, Ud, Ud, Ud, Ud, Ud]) rfl (fun _ => rfl) (fun u hu hF => ?_) (fun v51 => ?_)
  · have h9_ : v50 = (Pt c_b (c_o + 3)) := hF.1
    clear hF
    refine doesG_un rfl ?_
    obtain rfl := h9_
    refine (does_loadAgg (cs := [(Fl r7), (Fl r9), (Fl r11)]) (ev rfl) Try.isAgg26 Try.sizeOf26 (Cells.sub ((hc_c.ext (Ext.gr X42 E45)).ext hu) 3 3) rfl).mono ?_; rintro _ _ ⟨rfl, rfl⟩
    exact ⟨rfl, Ext.refl _⟩
  refine RW_d (fun v52 => [(Pt c_b c_o), Ud, (Pt b16 0), (Pt b24 0), (Pt b33 0), Ud, Ud, v48, v49, v50, v51, v52, Ud, Ud, Ud, Ud, Ud, Ud, Ud, Ud, Ud, Ud, Ud, Ud, Ud, Ud]) rfl (fun _ => rfl) (fun u hu hF => ?_) (fun v52 => ?_)
  · clear hF
    refine doesG_un rfl ?_
    refine (does_move (u := (Pt c_b c_o)) (ev rfl)).mono ?_; rintro _ _ ⟨rfl, rfl⟩
    exact ⟨rfl, Ext.refl _⟩
  refine RW_d (fun v53 => [(Pt c_b c_o), Ud, (Pt b16 0), (Pt b24 0), (Pt b33 0), Ud, Ud, v48, v49, v50, v51, v52, v53, Ud, Ud, Ud, Ud, Ud, Ud, Ud, Ud, Ud, Ud, Ud, Ud, Ud]) rfl (fun _ => rfl) (fun u hu hF => ?_) (fun v53 => ?_)
  · have h11_ : v52 = (Pt c_b c_o) := hF.1
    clear hF
    refine doesG_un rfl ?_
    obtain rfl := h11_
    refine (does_nilCheck (ev rfl)).mono ?_; rintro _ _ ⟨rfl, rfl⟩
    exact ⟨rfl, Ext.refl _⟩
  refine RW_d (fun v54 => [(Pt c_b c_o), Ud, (Pt b16 0), (Pt b24 0), (Pt b33 0), Ud, Ud, v48, v49, v50, v51, v52, v53, v54, Ud, Ud, Ud, Ud, Ud, Ud, Ud, Ud, Ud, Ud, Ud, Ud]) rfl (fun _ => rfl) (fun u hu hF => ?_) (fun v54 => ?_)
  · have h12_ : v53 = (Pt c_b c_o) := hF.1
    clear hF
    refine doesG_un rfl ?_
    obtain rfl := h12_
    refine (does_fieldAddr (ev rfl) fa48_0).mono ?_; rintro _ _ ⟨rfl, rfl⟩
    exact ⟨rfl, Ext.refl _⟩
  refine RW_d (fun v55 => [(Pt c_b c_o), Ud, (Pt b16 0), (Pt b24 0), (Pt b33 0), Ud, Ud, v48, v49, v50, v51, v52, v53, v54, v55, Ud, Ud, Ud, Ud, Ud, Ud, Ud, Ud, Ud, Ud, Ud]) rfl (fun _ => rfl) (fun u hu hF => ?_) (fun v55 => ?_)
  · have h13_ : v54 = (Pt c_b c_o) := hF.1
    clear hF
    refine doesG_un rfl ?_
    obtain rfl := h13_
    refine (does_loadAgg (cs := [(Fl r1), (Fl r3), (Fl r5)]) (ev rfl) Try.isAgg26 Try.sizeOf26 (Cells.sub ((hc_c.ext (Ext.gr X42 E45)).ext hu) 0 3) rfl).mono ?_; rintro _ _ ⟨rfl, rfl⟩
    exact ⟨rfl, Ext.refl _⟩
  refine RW_d (fun v56 => [(Pt c_b c_o), Ud, (Pt b16 0), (Pt b24 0), (Pt b33 0), Ud, Ud, v48, v49, v50, v51, v52, v53, v54, v55, v56, Ud, Ud, Ud, Ud, Ud, Ud, Ud, Ud, Ud, Ud]) rfl (fun _ => rfl) (fun u hu hF => ?_) (fun v56 => ?_)
  · have h10_ : v51 = (.agg #[(Fl r7), (Fl r9), (Fl r11)]) := hF.1
    have h14_ : v55 = (.agg #[(Fl r1), (Fl r3), (Fl r5)]) := hF.2.1
    clear hF
    refine doesG_un rfl ?_
    obtain rfl := h10_
    obtain rfl := h14_
    refine (does_call (args := #[(.agg #[(Fl r7), (Fl r9), (Fl r11)]), (.agg #[(Fl r1), (Fl r3), (Fl r5)])]) cal91 (evs rfl) (c_impl_LessVectors [(Fl r7), (Fl r9), (Fl r11)] A_c.to [(Fl r1), (Fl r3), (Fl r5)] A_c.frm _ ⟨r7, r9, r11, rfl, h8, h10, h12⟩ ⟨r1, r3, r5, rfl, h2, h4, h6⟩)).mono ?_; rintro v u' ⟨hx, ⟨csn1, hv, k0⟩⟩
    exact ⟨⟨csn1, hv, k0⟩, hx⟩
  refine RW_d (fun v57 => [(Pt c_b c_o), Ud, (Pt b16 0), (Pt b24 0), (Pt b33 0), Ud, Ud, v48, v49, v50, v51, v52, v53, v54, v55, v56, v57, Ud, Ud, Ud, Ud, Ud, Ud, Ud, Ud, Ud]) rfl (fun _ => rfl) (fun u hu hF => ?_) (fun v57 => ?_)
  · have h15_ : ∃ cs_1 : List Value, v56 = (.agg cs_1.toArray) ∧ RV3 w (vsub A_c.to A_c.frm) cs_1 := hF.1
    clear hF
    refine doesG_un rfl ?_
    obtain ⟨_, rfl, ⟨r15_1, r15_3, r15_5, rfl, h15_2, h15_4, h15_6⟩⟩ := h15_
    refine (does_call (args := #[(.agg #[(Fl r15_1), (Fl r15_3), (Fl r15_5)])]) cal90 (evs rfl) (c_impl_UnitOf [(Fl r15_1), (Fl r15_3), (Fl r15_5)] (vsub A_c.to A_c.frm) _ ⟨r15_1, r15_3, r15_5, rfl, (by assumption), (by assumption), (by assumption)⟩)).mono ?_; rintro v u' ⟨hx, ⟨csn1, hv, k0⟩⟩
    exact ⟨⟨csn1, hv.trans (by simp only [h15_2, h15_4, h15_6]), (by first | exact k0 | simpa only [h15_2, h15_4, h15_6] using RV3.any (w := w) k0)⟩, hx⟩
  refine RW_d (fun v58 => [(Pt c_b c_o), Ud, (Pt b16 0), (Pt b24 0), (Pt b33 0), v58, Ud, v48, v49, v50, v51, v52, v53, v54, v55, v56, v57, Ud, Ud, Ud, Ud, Ud, Ud, Ud, Ud, Ud]) rfl (fun _ => rfl) (fun u hu hF => ?_) (fun v58 => ?_)
  · clear hF
    refine doesG_un rfl ?_
    refine (does_alloc z26).mono ?_; rintro _ _ ⟨b, rfl, hb, hB, hx⟩
    exact ⟨⟨b, rfl, Nat.le_trans (Nat.le_trans (Below.size E45) (Below.size hu)) hb, hB⟩, hx⟩
  refine RW_fin ?_; intro w59 E60 hP61
  obtain ⟨⟨⟨⟨⟨⟨⟨⟨⟨⟨⟨-, -⟩, -⟩, -⟩, -⟩, -⟩, -⟩, -⟩, -⟩, -⟩, q62⟩, q63⟩ := hP61
  have X64 := Ext.gr X47 E60
  have q62 : ∃ cs_1 : List Value, v57 = (.agg cs_1.toArray) ∧ RV3 w (unitF (vsub A_c.to A_c.frm)) cs_1 := q62
  obtain ⟨_, rfl, ⟨r65, r67, r69, rfl, h66, h68, h70⟩⟩ := q62
  have q63 : ∃ b : Nat, v58 = .pointer (some ⟨b, 0, none⟩) ∧ w37.heap.size ≤ b ∧ Blk w59 b [(Fl 0), (Fl 0), (Fl 0)] := q63
  obtain ⟨b71, rfl, hb72, hB73⟩ := q63
  have n74 : c_b < b71 := Nat.lt_of_lt_of_le (cell_lt (Cells.at (hc_c.ext X42) 0 rfl)) hb72
  have n75 : b16 < b71 := Nat.lt_of_lt_of_le (Blk.lt ((hB18.ext E27).ext E36)) hb72
  have n76 : b24 < b71 := Nat.lt_of_lt_of_le (Blk.lt (hB26.ext E36)) hb72
  have n77 : b33 < b71 := Nat.lt_of_lt_of_le (Blk.lt hB35) hb72
  have g78 : w.heap.size ≤ b71 := Nat.le_trans (Below.size X42) hb72
  show wpList _ _ _ _ (fr [(Pt c_b c_o), Ud, (Pt b16 0), (Pt b24 0), (Pt b33 0), (Pt b71 0), Ud, v48, v49, v50, v51, v52, v53, v54, v55, v56, (.agg #[(Fl r65), (Fl r67), (Fl r69)]), Ud, Ud, Ud, Ud, Ud, Ud, Ud, Ud, Ud]) _
  refine seqn rfl rfl (does_store (n := 3) (cs := [(Fl 0), (Fl 0), (Fl 0)]) (u := (.agg #[(Fl r65), (Fl r67), (Fl r69)])) (ev rfl) (ev rfl) Try.sizeOf26 rfl hB73 (Nat.le_of_ble_eq_true rfl) rfl) ?_; rintro _ w81 ⟨rfl, W79, hB80⟩
  change Blk _ _ [(Fl r65), (Fl r67), (Fl r69)] at hB80
  have X82 := Below.wr X64 W79 g78
  refine wpList_nil (hK43 _ _ ?_)
  refine wp_seq_k fun K83 hK83 => ?_
  refine wp_region_lit ?_
  refine q_is (l' := [(Pt c_b c_o), Ud, (Pt b16 0), (Pt b24 0), (Pt b33 0), (Pt b71 0), Ud, v48, v49, v50, v51, v52, v53, v54, v55, v56, (.agg #[(Fl r65), (Fl r67), (Fl r69)]), (.agg #[(Fl r65), (Fl r67), (Fl r69)]), Ud, Ud, Ud, Ud, Ud, Ud, Ud, Ud]) rfl rfl (does_loadAgg (cs := [(Fl r65), (Fl r67), (Fl r69)]) (ev rfl) Try.isAgg26 Try.sizeOf26 (Blk.cells hB80) rfl) rfl ?_
  refine q_is (l' := [(Pt c_b c_o), Ud, (Pt b16 0), (Pt b24 0), (Pt b33 0), (Pt b71 0), Ud, v48, v49, v50, v51, v52, v53, v54, v55, v56, (.agg #[(Fl r65), (Fl r67), (Fl r69)]), (.agg #[(Fl r65), (Fl r67), (Fl r69)]), (.agg #[(Fl 0), (Fl 1065353216), (Fl 0)]), Ud, Ud, Ud, Ud, Ud, Ud, Ud]) rfl rfl (does_build (parts' := [(0, (Fl 0)), (1, (Fl 1065353216)), (2, (Fl 0))]) (cells := #[(Fl 0), (Fl 1065353216), (Fl 0)]) (evp rfl) (by kernel_rfl)) rfl ?_
  refine seqd rfl rfl (does_call (args := #[(.agg #[(Fl r65), (Fl r67), (Fl r69)]), (.agg #[(Fl 0), (Fl 1065353216), (Fl 0)])]) cal103 (evs rfl) (c_impl_CrossOf [(Fl r65), (Fl r67), (Fl r69)] (unitF (vsub A_c.to A_c.frm)) [(Fl 0), (Fl 1065353216), (Fl 0)] (V3.mk (cf .f32 0) (cf .f32 1065353216) (cf .f32 0)) _ ⟨r65, r67, r69, rfl, h66, h68, h70⟩ ⟨0, 1065353216, 0, rfl, rfl, rfl, rfl⟩)) ?_; rintro _ w85 ⟨E84, ⟨_, rfl, ⟨r86, r88, r90, rfl, h87, h89, h91⟩⟩⟩
  have X92 := Ext.gr X82 E84
  show wpList _ _ _ _ (fr [(Pt c_b c_o), Ud, (Pt b16 0), (Pt b24 0), (Pt b33 0), (Pt b71 0), Ud, v48, v49, v50, v51, v52, v53, v54, v55, v56, (.agg #[(Fl r65), (Fl r67), (Fl r69)]), (.agg #[(Fl r65), (Fl r67), (Fl r69)]), (.agg #[(Fl 0), (Fl 1065353216), (Fl 0)]), (.agg #[(Fl r86), (Fl r88), (Fl r90)]), Ud, Ud, Ud, Ud, Ud, Ud]) _
  refine seqd rfl rfl (does_call (args := #[(.agg #[(Fl r86), (Fl r88), (Fl r90)])]) cal90 (evs rfl) (c_impl_UnitOf [(Fl r86), (Fl r88), (Fl r90)] (crossF (unitF (vsub A_c.to A_c.frm)) (V3.mk (cf .f32 0) (cf .f32 1065353216) (cf .f32 0))) _ ⟨r86, r88, r90, rfl, h87, h89, h91⟩)) ?_; rintro _ w94 ⟨E93, ⟨_, rfl, ⟨r95, r97, r99, rfl, h96, h98, h100⟩⟩⟩
  have X101 := Ext.gr X92 E93
  show wpList _ _ _ _ (fr [(Pt c_b c_o), Ud, (Pt b16 0), (Pt b24 0), (Pt b33 0), (Pt b71 0), Ud, v48, v49, v50, v51, v52, v53, v54, v55, v56, (.agg #[(Fl r65), (Fl r67), (Fl r69)]), (.agg #[(Fl r65), (Fl r67), (Fl r69)]), (.agg #[(Fl 0), (Fl 1065353216), (Fl 0)]), (.agg #[(Fl r86), (Fl r88), (Fl r90)]), (.agg #[(Fl r95), (Fl r97), (Fl r99)]), Ud, Ud, Ud, Ud, Ud]) _
  refine seqd rfl rfl (does_alloc z26) ?_; rintro _ w106 ⟨b102, rfl, hb103, hB104, E105⟩
  have n107 : c_b < b102 := Nat.lt_of_lt_of_le (cell_lt (Cells.at (hc_c.ext X101) 0 rfl)) hb103
  have n108 : b16 < b102 := Nat.lt_of_lt_of_le (Blk.lt (((((((hB18.ext E27).ext E36).ext E45).ext E60).wr W79 (Nat.ne_of_lt n75)).ext E84).ext E93)) hb103
  have n109 : b24 < b102 := Nat.lt_of_lt_of_le (Blk.lt ((((((hB26.ext E36).ext E45).ext E60).wr W79 (Nat.ne_of_lt n76)).ext E84).ext E93)) hb103
  have n110 : b33 < b102 := Nat.lt_of_lt_of_le (Blk.lt (((((hB35.ext E45).ext E60).wr W79 (Nat.ne_of_lt n77)).ext E84).ext E93)) hb103
  have n111 : b71 < b102 := Nat.lt_of_lt_of_le (Blk.lt ((hB80.ext E84).ext E93)) hb103
  have g112 : w.heap.size ≤ b102 := Nat.le_trans (Below.size X101) hb103
  change Blk _ _ [(Fl 0), (Fl 0), (Fl 0)] at hB104
  have X113 := Ext.gr X101 E105
  show wpList _ _ _ _ (fr [(Pt c_b c_o), Ud, (Pt b16 0), (Pt b24 0), (Pt b33 0), (Pt b71 0), (Pt b102 0), v48, v49, v50, v51, v52, v53, v54, v55, v56, (.agg #[(Fl r65), (Fl r67), (Fl r69)]), (.agg #[(Fl r65), (Fl r67), (Fl r69)]), (.agg #[(Fl 0), (Fl 1065353216), (Fl 0)]), (.agg #[(Fl r86), (Fl r88), (Fl r90)]), (.agg #[(Fl r95), (Fl r97), (Fl r99)]), Ud, Ud, Ud, Ud, Ud]) _
  refine seqn rfl rfl (does_store (n := 3) (cs := [(Fl 0), (Fl 0), (Fl 0)]) (u := (.agg #[(Fl r95), (Fl r97), (Fl r99)])) (ev rfl) (ev rfl) Try.sizeOf26 rfl hB104 (Nat.le_of_ble_eq_true rfl) rfl) ?_; rintro _ w116 ⟨rfl, W114, hB115⟩
  change Blk _ _ [(Fl r95), (Fl r97), (Fl r99)] at hB115
  have X117 := Below.wr X113 W114 g112
  refine wpList_nil (hK83 _ _ ?_)
  refine wp_seq_k fun K118 hK118 => ?_
  have n122 : b16 < w116.heap.size := Blk.lt (((((((((hB18.ext E27).ext E36).ext E45).ext E60).wr W79 (Nat.ne_of_lt n75)).ext E84).ext E93).ext E105).wr W114 (Nat.ne_of_lt n108))
  have n123 : b24 < w116.heap.size := Blk.lt ((((((((hB26.ext E36).ext E45).ext E60).wr W79 (Nat.ne_of_lt n76)).ext E84).ext E93).ext E105).wr W114 (Nat.ne_of_lt n109))
  refine region_any2 [b16, b24] [0, 0, 0, 6, 0, 15, 47, 127] [0, 1] (
    [FactW.pure [] [] [0, 1] true (fun v => v = (.agg #[(Fl r95), (Fl r97), (Fl r99)])),
      FactW.pure [] [] [0, 1] true (fun v => v = (.agg #[(Fl r95), (Fl r97), (Fl r99)])),
      FactW.pure [] [] [0, 1] true (fun v => v = (.agg #[(Fl r65), (Fl r67), (Fl r69)])),
      FactW.pure [1, 2] [] [0, 1] true (fun v => ∃ cs_1 : List Value, v = (.agg cs_1.toArray) ∧ RV3 w (crossF (unitF (crossF (unitF (vsub A_c.to A_c.frm)) (V3.mk (cf .f32 0) (cf .f32 1065353216) (cf .f32 0)))) (unitF (vsub A_c.to A_c.frm))) cs_1),
      FactW.pure [] [0, 1] [0, 1] true (fun v => v = (.agg #[(Fl r65), (Fl r67), (Fl r69)])),
      FactW.mem [0] [] [0] [1] true (fun v w' => v = undef ∧ Blk w' b16 [(Fl r95), (Fl r97), (Fl r99)]) (by rintro v w1 w2 hx ⟨rfl, h⟩; exact ⟨rfl, h.kl hx (ninS (Nat.ne_of_lt n30) nin0)⟩),
      FactW.mem [5, 3] [0] [1] [0] true (fun v w' => v = undef ∧ ∃ r_1 : Nat, ∃ r_2 : Nat, ∃ r_3 : Nat, Blk w' b24 [(Fl r_1), (Fl r_2), (Fl r_3)] ∧ cf .f32 r_1 = (crossF (unitF (crossF (unitF (vsub A_c.to A_c.frm)) (V3.mk (cf .f32 0) (cf .f32 1065353216) (cf .f32 0)))) (unitF (vsub A_c.to A_c.frm))).x ∧ cf .f32 r_2 = (crossF (unitF (crossF (unitF (vsub A_c.to A_c.frm)) (V3.mk (cf .f32 0) (cf .f32 1065353216) (cf .f32 0)))) (unitF (vsub A_c.to A_c.frm))).y ∧ cf .f32 r_3 = (crossF (unitF (crossF (unitF (vsub A_c.to A_c.frm)) (V3.mk (cf .f32 0) (cf .f32 1065353216) (cf .f32 0)))) (unitF (vsub A_c.to A_c.frm))).z) (by rintro v w1 w2 hx ⟨rfl, z0, z1, z2, h, k0, k1, k2⟩; exact ⟨rfl, z0, z1, z2, h.kl hx (ninS (Nat.ne_of_gt n30) nin0), k0, k1, k2⟩)]) mixed (by kernel_rfl) ?_
  obtain ⟨w119, hw121⟩ : ∃ w', w' = World.drew w116 := ⟨_, rfl⟩; rw [← hw121]; have E120 : Ext w116 w119 := by rw [hw121]; exact Ext.draw _
  clear hw121
  have X124 := Ext.gr X117 E120
  refine RW2_d (fun v125 => [(Pt c_b c_o), Ud, (Pt b16 0), (Pt b24 0), (Pt b33 0), (Pt b71 0), (Pt b102 0), v48, v49, v50, v51, v52, v53, v54, v55, v56, (.agg #[(Fl r65), (Fl r67), (Fl r69)]), (.agg #[(Fl r65), (Fl r67), (Fl r69)]), (.agg #[(Fl 0), (Fl 1065353216), (Fl 0)]), (.agg #[(Fl r86), (Fl r88), (Fl r90)]), (.agg #[(Fl r95), (Fl r97), (Fl r99)]), v125, Ud, Ud, Ud, Ud]) rfl (fun _ => rfl) (fun u hu hF => ?_) (fun v125 => ?_)
  · replace hu : KpL [] _ _ := hu
    clear hF
    refine doesG_un rfl ?_
    refine (does_loadAgg (cs := [(Fl r95), (Fl r97), (Fl r99)]) (ev rfl) Try.isAgg26 Try.sizeOf26 (Blk.cells ((hB115.ext E120).ext (KpL.toExt hu))) rfl).mono ?_; rintro _ _ ⟨rfl, rfl⟩
    exact ⟨rfl, KpL.refl _ _⟩
  refine RW2_d (fun v126 => [(Pt c_b c_o), Ud, (Pt b16 0), (Pt b24 0), (Pt b33 0), (Pt b71 0), (Pt b102 0), v48, v49, v50, v51, v52, v53, v54, v55, v56, (.agg #[(Fl r65), (Fl r67), (Fl r69)]), (.agg #[(Fl r65), (Fl r67), (Fl r69)]), (.agg #[(Fl 0), (Fl 1065353216), (Fl 0)]), (.agg #[(Fl r86), (Fl r88), (Fl r90)]), (.agg #[(Fl r95), (Fl r97), (Fl r99)]), v125, v126, Ud, Ud, Ud]) rfl (fun _ => rfl) (fun u hu hF => ?_) (fun v126 => ?_)
  · replace hu : KpL [] _ _ := hu
    clear hF
    refine doesG_un rfl ?_
    refine (does_loadAgg (cs := [(Fl r95), (Fl r97), (Fl r99)]) (ev rfl) Try.isAgg26 Try.sizeOf26 (Blk.cells ((hB115.ext E120).ext (KpL.toExt hu))) rfl).mono ?_; rintro _ _ ⟨rfl, rfl⟩
    exact ⟨rfl, KpL.refl _ _⟩
  refine RW2_d (fun v127 => [(Pt c_b c_o), Ud, (Pt b16 0), (Pt b24 0), (Pt b33 0), (Pt b71 0), (Pt b102 0), v48, v49, v50, v51, v52, v53, v54, v55, v56, (.agg #[(Fl r65), (Fl r67), (Fl r69)]), (.agg #[(Fl r65), (Fl r67), (Fl r69)]), (.agg #[(Fl 0), (Fl 1065353216), (Fl 0)]), (.agg #[(Fl r86), (Fl r88), (Fl r90)]), (.agg #[(Fl r95), (Fl r97), (Fl r99)]), v125, v126, v127, Ud, Ud]) rfl (fun _ => rfl) (fun u hu hF => ?_) (fun v127 => ?_)
  · replace hu : KpL [] _ _ := hu
    clear hF
    refine doesG_un rfl ?_
    refine (does_loadAgg (cs := [(Fl r65), (Fl r67), (Fl r69)]) (ev rfl) Try.isAgg26 Try.sizeOf26 (Blk.cells ((((((hB80.ext E84).ext E93).ext E105).wr W114 (Nat.ne_of_lt n111)).ext E120).ext (KpL.toExt hu))) rfl).mono ?_; rintro _ _ ⟨rfl, rfl⟩
    exact ⟨rfl, KpL.refl _ _⟩
  refine RW2_d (fun v128 => [(Pt c_b c_o), Ud, (Pt b16 0), (Pt b24 0), (Pt b33 0), (Pt b71 0), (Pt b102 0), v48, v49, v50, v51, v52, v53, v54, v55, v56, (.agg #[(Fl r65), (Fl r67), (Fl r69)]), (.agg #[(Fl r65), (Fl r67), (Fl r69)]), (.agg #[(Fl 0), (Fl 1065353216), (Fl 0)]), (.agg #[(Fl r86), (Fl r88), (Fl r90)]), (.agg #[(Fl r95), (Fl r97), (Fl r99)]), v125, v126, v127, v128, Ud]) rfl (fun _ => rfl) (fun u hu hF => ?_) (fun v128 => ?_)
  · replace hu : KpL [] _ _ := hu
    have h22_ : v126 = (.agg #[(Fl r95), (Fl r97), (Fl r99)]) := hF.1
    have h23_ : v127 = (.agg #[(Fl r65), (Fl r67), (Fl r69)]) := hF.2.1
    clear hF
    refine doesG_un rfl ?_
    obtain rfl := h22_
    obtain rfl := h23_
    refine (does_call (args := #[(.agg #[(Fl r95), (Fl r97), (Fl r99)]), (.agg #[(Fl r65), (Fl r67), (Fl r69)])]) cal103 (evs rfl) (c_impl_CrossOf [(Fl r95), (Fl r97), (Fl r99)] (unitF (crossF (unitF (vsub A_c.to A_c.frm)) (V3.mk (cf .f32 0) (cf .f32 1065353216) (cf .f32 0)))) [(Fl r65), (Fl r67), (Fl r69)] (unitF (vsub A_c.to A_c.frm)) _ ⟨r95, r97, r99, rfl, h96, h98, h100⟩ ⟨r65, r67, r69, rfl, h66, h68, h70⟩)).mono ?_; rintro v u' ⟨hx, ⟨csn1, hv, k0⟩⟩
    exact ⟨⟨csn1, hv, k0⟩, (KpL.of_ext hx)⟩
  refine RW2_d (fun v129 => [(Pt c_b c_o), Ud, (Pt b16 0), (Pt b24 0), (Pt b33 0), (Pt b71 0), (Pt b102 0), v48, v49, v50, v51, v52, v53, v54, v55, v56, (.agg #[(Fl r65), (Fl r67), (Fl r69)]), (.agg #[(Fl r65), (Fl r67), (Fl r69)]), (.agg #[(Fl 0), (Fl 1065353216), (Fl 0)]), (.agg #[(Fl r86), (Fl r88), (Fl r90)]), (.agg #[(Fl r95), (Fl r97), (Fl r99)]), v125, v126, v127, v128, v129]) rfl (fun _ => rfl) (fun u hu hF => ?_) (fun v129 => ?_)
  · replace hu : KpL [b16, b24] _ _ := hu
    clear hF
    refine doesG_un rfl ?_
    refine (does_loadAgg (cs := [(Fl r65), (Fl r67), (Fl r69)]) (ev rfl) Try.isAgg26 Try.sizeOf26 (Blk.cells ((((((hB80.ext E84).ext E93).ext E105).wr W114 (Nat.ne_of_lt n111)).ext E120).kl hu (ninS (Nat.ne_of_gt n75) (ninS (Nat.ne_of_gt n76) nin0)))) rfl).mono ?_; rintro _ _ ⟨rfl, rfl⟩
    exact ⟨rfl, KpL.refl _ _⟩
  refine RW2_n rfl (fun u hu hF => ?_) (fun v130 => ?_)
  · replace hu : KpL [] _ _ := hu
    have h21_ : v125 = (.agg #[(Fl r95), (Fl r97), (Fl r99)]) := hF.1
    clear hF
    refine doesG_un rfl ?_
    obtain rfl := h21_
    refine (does_store (n := 3) (cs := [(Fl 0), (Fl 0), (Fl 0)]) (u := (.agg #[(Fl r95), (Fl r97), (Fl r99)])) (ev rfl) (ev rfl) Try.sizeOf26 rfl (((((((((((hB18.ext E27).ext E36).ext E45).ext E60).wr W79 (Nat.ne_of_lt n75)).ext E84).ext E93).ext E105).wr W114 (Nat.ne_of_lt n108)).ext E120).ext (KpL.toExt hu)) (Nat.le_of_ble_eq_true rfl) rfl).mono ?_; rintro _ _ ⟨rfl, hW, hB⟩
    exact ⟨⟨rfl, hB⟩, KpL.of_wr hW⟩
  refine RW2_n rfl (fun u hu hF => ?_) (fun v131 => ?_)
  · replace hu : KpL [b16] _ _ := hu
    obtain ⟨_, hs5_⟩ := hF.1
    have h24_ : ∃ cs_1 : List Value, v128 = (.agg cs_1.toArray) ∧ RV3 w (crossF (unitF (crossF (unitF (vsub A_c.to A_c.frm)) (V3.mk (cf .f32 0) (cf .f32 1065353216) (cf .f32 0)))) (unitF (vsub A_c.to A_c.frm))) cs_1 := hF.2.1
    clear hF
    refine doesG_un rfl ?_
    obtain ⟨_, rfl, ⟨r24_1, r24_3, r24_5, rfl, h24_2, h24_4, h24_6⟩⟩ := h24_
    refine (does_store (n := 3) (cs := [(Fl 0), (Fl 0), (Fl 0)]) (u := (.agg #[(Fl r24_1), (Fl r24_3), (Fl r24_5)])) (ev rfl) (ev rfl) Try.sizeOf26 rfl ((((((((((hB26.ext E36).ext E45).ext E60).wr W79 (Nat.ne_of_lt n76)).ext E84).ext E93).ext E105).wr W114 (Nat.ne_of_lt n109)).ext E120).kl hu (ninS (Nat.ne_of_gt n30) nin0)) (Nat.le_of_ble_eq_true rfl) rfl).mono ?_; rintro _ _ ⟨rfl, hW, hB⟩
    exact ⟨⟨rfl, r24_1, r24_3, r24_5, hB, (by simp only [h24_2, h24_4, h24_6]), (by simp only [h24_2, h24_4, h24_6]), (by simp only [h24_2, h24_4, h24_6])⟩, KpL.of_wr hW⟩
  refine RW2_fin ?_; intro w132 E133 hP134; replace E133 : KpL [b16, b24] _ _ := E133
  obtain ⟨⟨⟨⟨⟨⟨⟨-, -⟩, -⟩, -⟩, -⟩, q135⟩, q136⟩, q137⟩ := hP134
  have X138 := Below.kl X124 E133 (allS g22 (allS g31 all0)) (Nat.le_refl _)
  obtain ⟨_, hB139⟩ := q136 rfl
  change Blk _ _ [(Fl r95), (Fl r97), (Fl r99)] at hB139
  obtain ⟨_, r141, r142, r143, hB140, h144, h145, h146⟩ := q137 rfl
  change Blk _ _ [(Fl r141), (Fl r142), (Fl r143)] at hB140
  have q135 : v129 = (.agg #[(Fl r65), (Fl r67), (Fl r69)]) := q135 rfl
  obtain rfl := q135
  show wpList _ _ _ _ (fr [(Pt c_b c_o), Ud, (Pt b16 0), (Pt b24 0), (Pt b33 0), (Pt b71 0), (Pt b102 0), v48, v49, v50, v51, v52, v53, v54, v55, v56, (.agg #[(Fl r65), (Fl r67), (Fl r69)]), (.agg #[(Fl r65), (Fl r67), (Fl r69)]), (.agg #[(Fl 0), (Fl 1065353216), (Fl 0)]), (.agg #[(Fl r86), (Fl r88), (Fl r90)]), (.agg #[(Fl r95), (Fl r97), (Fl r99)]), v125, v126, v127, v128, (.agg #[(Fl r65), (Fl r67), (Fl r69)])]) _
  refine seqn rfl rfl (does_store (n := 3) (cs := [(Fl 0), (Fl 0), (Fl 0)]) (u := (.agg #[(Fl r65), (Fl r67), (Fl r69)])) (ev rfl) (ev rfl) Try.sizeOf26 rfl (((((((((hB35.ext E45).ext E60).wr W79 (Nat.ne_of_lt n77)).ext E84).ext E93).ext E105).wr W114 (Nat.ne_of_lt n110)).ext E120).kl E133 (ninS (Nat.ne_of_gt n39) (ninS (Nat.ne_of_gt n40) nin0))) (Nat.le_of_ble_eq_true rfl) rfl) ?_; rintro _ w149 ⟨rfl, W147, hB148⟩
  change Blk _ _ [(Fl r65), (Fl r67), (Fl r69)] at hB148
  have X150 := Below.wr X138 W147 g41
  refine wpList_nil (hK118 _ _ ?_)
  refine wp_ret ?_
  refine ret_val (v := (.tuple #[(.agg #[(Fl r95), (Fl r97), (Fl r99)]), (.agg #[(Fl r141), (Fl r142), (Fl r143)]), (.agg #[(Fl r65), (Fl r67), (Fl r69)])])) (res_CCC rfl (slot rfl) (run_loadAgg (cs := [(Fl r95), (Fl r97), (Fl r99)]) Try.isAgg26 Try.sizeOf26 (Blk.cells (hB139.wr W147 (Nat.ne_of_lt n39))) rfl) (slot rfl) (run_loadAgg (cs := [(Fl r141), (Fl r142), (Fl r143)]) Try.isAgg26 Try.sizeOf26 (Blk.cells (hB140.wr W147 (Nat.ne_of_lt n40))) rfl) (slot rfl) (run_loadAgg (cs := [(Fl r65), (Fl r67), (Fl r69)]) Try.isAgg26 Try.sizeOf26 (Blk.cells hB148) rfl)) X150 ?_
  have x151 : cf .f32 r95 = (rgtC A_c).x := by first | with_reducible rfl | (simp only [rgtC, upC, fwdC, h2, h4, h6, h8, h10, h12, h14, h66, h68, h70, h87, h89, h91, h96, h98, h100, h144, h145, h146]; done) | (simp [rgtC, upC, fwdC, h2, h4, h6, h8, h10, h12, h14, h66, h68, h70, h87, h89, h91, h96, h98, h100, h144, h145, h146]; done) | rfl
  have x152 : cf .f32 r97 = (rgtC A_c).y := by first | with_reducible rfl | (simp only [rgtC, upC, fwdC, h2, h4, h6, h8, h10, h12, h14, h66, h68, h70, h87, h89, h91, h96, h98, h100, h144, h145, h146]; done) | (simp [rgtC, upC, fwdC, h2, h4, h6, h8, h10, h12, h14, h66, h68, h70, h87, h89, h91, h96, h98, h100, h144, h145, h146]; done) | rfl
  have x153 : cf .f32 r99 = (rgtC A_c).z := by first | with_reducible rfl | (simp only [rgtC, upC, fwdC, h2, h4, h6, h8, h10, h12, h14, h66, h68, h70, h87, h89, h91, h96, h98, h100, h144, h145, h146]; done) | (simp [rgtC, upC, fwdC, h2, h4, h6, h8, h10, h12, h14, h66, h68, h70, h87, h89, h91, h96, h98, h100, h144, h145, h146]; done) | rfl
  have x154 : cf .f32 r141 = (upC A_c).x := by first | with_reducible rfl | (simp only [rgtC, upC, fwdC, h2, h4, h6, h8, h10, h12, h14, h66, h68, h70, h87, h89, h91, h96, h98, h100, h144, h145, h146]; done) | (simp [rgtC, upC, fwdC, h2, h4, h6, h8, h10, h12, h14, h66, h68, h70, h87, h89, h91, h96, h98, h100, h144, h145, h146]; done) | rfl
  have x155 : cf .f32 r142 = (upC A_c).y := by first | with_reducible rfl | (simp only [rgtC, upC, fwdC, h2, h4, h6, h8, h10, h12, h14, h66, h68, h70, h87, h89, h91, h96, h98, h100, h144, h145, h146]; done) | (simp [rgtC, upC, fwdC, h2, h4, h6, h8, h10, h12, h14, h66, h68, h70, h87, h89, h91, h96, h98, h100, h144, h145, h146]; done) | rfl
  have x156 : cf .f32 r143 = (upC A_c).z := by first | with_reducible rfl | (simp only [rgtC, upC, fwdC, h2, h4, h6, h8, h10, h12, h14, h66, h68, h70, h87, h89, h91, h96, h98, h100, h144, h145, h146]; done) | (simp [rgtC, upC, fwdC, h2, h4, h6, h8, h10, h12, h14, h66, h68, h70, h87, h89, h91, h96, h98, h100, h144, h145, h146]; done) | rfl
  have x157 : cf .f32 r65 = (fwdC A_c).x := by first | with_reducible rfl | (simp only [rgtC, upC, fwdC, h2, h4, h6, h8, h10, h12, h14, h66, h68, h70, h87, h89, h91, h96, h98, h100, h144, h145, h146]; done) | (simp [rgtC, upC, fwdC, h2, h4, h6, h8, h10, h12, h14, h66, h68, h70, h87, h89, h91, h96, h98, h100, h144, h145, h146]; done) | rfl
  have x158 : cf .f32 r67 = (fwdC A_c).y := by first | with_reducible rfl | (simp only [rgtC, upC, fwdC, h2, h4, h6, h8, h10, h12, h14, h66, h68, h70, h87, h89, h91, h96, h98, h100, h144, h145, h146]; done) | (simp [rgtC, upC, fwdC, h2, h4, h6, h8, h10, h12, h14, h66, h68, h70, h87, h89, h91, h96, h98, h100, h144, h145, h146]; done) | rfl
  have x159 : cf .f32 r69 = (fwdC A_c).z := by first | with_reducible rfl | (simp only [rgtC, upC, fwdC, h2, h4, h6, h8, h10, h12, h14, h66, h68, h70, h87, h89, h91, h96, h98, h100, h144, h145, h146]; done) | (simp [rgtC, upC, fwdC, h2, h4, h6, h8, h10, h12, h14, h66, h68, h70, h87, h89, h91, h96, h98, h100, h144, h145, h146]; done) | rfl
  exact ⟨[(Fl r95), (Fl r97), (Fl r99)], [(Fl r141), (Fl r142), (Fl r143)], [(Fl r65), (Fl r67), (Fl r69)], rfl, ⟨r95, r97, r99, rfl, x151, x152, x153⟩, ⟨r141, r142, r143, rfl, x154, x155, x156⟩, ⟨r65, r67, r69, rfl, x157, x158, x159⟩⟩

end Go.Proofs.Ytbbidfadenmmjaa
