/- contracts of functions, each walked once -/
import Derived.Test.YtlpgjgombdcheaaJ2
namespace Go.Proofs.Ytlpgjgombdcheaa
open Go Go.RowKit
set_option maxRecDepth 100000
set_option maxHeartbeats 3200000
set_option linter.unusedVariables false
set_option linter.unusedSimpArgs false

/- laws.toVector -/
theorem c_laws_toVector (a : List Value) (A_a : V3) (w : World) (hv_a : RV3 w A_a a) : Gives Try.prog 8 #[(.agg a.toArray)] w (fun v w' => ∃ cs_1 : List Value, v = (.agg cs_1.toArray) ∧ RV3 w A_a cs_1) := by
  obtain ⟨r1, r3, r5, rfl, h2, h4, h6⟩ := hv_a
  refine enter [(.agg #[(Fl r1), (Fl r3), (Fl r5)]), Ud, Ud, Ud, Ud, Ud, Ud, Ud, Ud, Ud, Ud, Ud, Ud, Ud] Try.func8 rfl Try.ntmps8 rfl ?_
  refine wp_seq_k fun K7 hK7 => ?_
  refine wp_region_lit ?_
  refine seqd rfl rfl (does_box (u := (.agg #[(Fl r1), (Fl r3), (Fl r5)])) (ev rfl)) ?_; rintro _ w12 ⟨b8, rfl, hb9, hB10, E11⟩
  have g13 : w.heap.size ≤ b8 := Nat.le_trans (Below.size (Ext.refl w)) hb9
  change Blk _ _ [(Fl r1), (Fl r3), (Fl r5)] at hB10
  have X14 := Ext.gr (Ext.refl w) E11
  show wpList _ _ _ _ (fr [(.agg #[(Fl r1), (Fl r3), (Fl r5)]), (Pt b8 0), Ud, Ud, Ud, Ud, Ud, Ud, Ud, Ud, Ud, Ud, Ud, Ud]) _
  refine seqd rfl rfl (does_alloc z31) ?_; rintro _ w19 ⟨b15, rfl, hb16, hB17, E18⟩
  have n20 : b8 < b15 := Nat.lt_of_lt_of_le (Blk.lt hB10) hb16
  have g21 : w.heap.size ≤ b15 := Nat.le_trans (Below.size X14) hb16
  change Blk _ _ [(Fl 0), (Fl 0), (Fl 0)] at hB17
  have X22 := Ext.gr X14 E18
  show wpList _ _ _ _ (fr [(.agg #[(Fl r1), (Fl r3), (Fl r5)]), (Pt b8 0), (Pt b15 0), Ud, Ud, Ud, Ud, Ud, Ud, Ud, Ud, Ud, Ud, Ud]) _
  refine wpList_nil (hK7 _ _ ?_)
  refine wp_seq_k fun K23 hK23 => ?_
  refine wp_region_lit ?_
  refine seqd rfl rfl (does_alloc z31) ?_; rintro _ w28 ⟨b24, rfl, hb25, hB26, E27⟩
  have n29 : b8 < b24 := Nat.lt_of_lt_of_le (Blk.lt (hB10.ext E18)) hb25
  have n30 : b15 < b24 := Nat.lt_of_lt_of_le (Blk.lt hB17) hb25
  have g31 : w.heap.size ≤ b24 := Nat.le_trans (Below.size X22) hb25
  change Blk _ _ [(Fl 0), (Fl 0), (Fl 0)] at hB26
  have X32 := Ext.gr X22 E27
  show wpList _ _ _ _ (fr [(.agg #[(Fl r1), (Fl r3), (Fl r5)]), (Pt b8 0), (Pt b15 0), (Pt b24 0), Ud, Ud, Ud, Ud, Ud, Ud, Ud, Ud, Ud, Ud]) _
  refine wpList_nil (hK23 _ _ ?_)
  refine wp_seq_k fun K33 hK33 => ?_
  refine wp_region_lit ?_
  refine q_is (l' := [(.agg #[(Fl r1), (Fl r3), (Fl r5)]), (Pt b8 0), (Pt b15 0), (Pt b24 0), (Pt b8 0), Ud, Ud, Ud, Ud, Ud, Ud, Ud, Ud, Ud]) rfl rfl (does_fieldAddr (ev rfl) fa24_0) rfl ?_
  refine q_is (l' := [(.agg #[(Fl r1), (Fl r3), (Fl r5)]), (Pt b8 0), (Pt b15 0), (Pt b24 0), (Pt b8 0), (Fl r1), Ud, Ud, Ud, Ud, Ud, Ud, Ud, Ud]) rfl rfl (does_load (u := (Fl r1)) (ev rfl) Try.isAgg22 (Cells.at (Blk.cells ((hB10.ext E18).ext E27)) 0 rfl)) rfl ?_
  refine q_is (l' := [(.agg #[(Fl r1), (Fl r3), (Fl r5)]), (Pt b8 0), (Pt b15 0), (Pt b24 0), (Pt b8 0), (Fl r1), (Pt b24 0), Ud, Ud, Ud, Ud, Ud, Ud, Ud]) rfl rfl (does_fieldAddr (ev rfl) fa31_0) rfl ?_
  refine seqn rfl rfl (does_store (n := 1) (cs := [(Fl 0), (Fl 0), (Fl 0)]) (u := (Fl r1)) (ev rfl) (ev rfl) Try.sizeOf22 rfl hB26 (Nat.le_of_ble_eq_true rfl) rfl) ?_; rintro _ w36 ⟨rfl, W34, hB35⟩
  change Blk _ _ [(Fl r1), (Fl 0), (Fl 0)] at hB35
  have X37 := Below.wr X32 W34 g31
  refine wpList_nil (hK33 _ _ ?_)
  refine wp_seq_k fun K38 hK38 => ?_
  refine wp_region_lit ?_
  refine q_is (l' := [(.agg #[(Fl r1), (Fl r3), (Fl r5)]), (Pt b8 0), (Pt b15 0), (Pt b24 0), (Pt b8 0), (Fl r1), (Pt b24 0), (Pt b8 1), Ud, Ud, Ud, Ud, Ud, Ud]) rfl rfl (does_fieldAddr (ev rfl) fa24_1) rfl ?_
  refine q_is (l' := [(.agg #[(Fl r1), (Fl r3), (Fl r5)]), (Pt b8 0), (Pt b15 0), (Pt b24 0), (Pt b8 0), (Fl r1), (Pt b24 0), (Pt b8 1), (Fl r3), Ud, Ud, Ud, Ud, Ud]) rfl rfl (does_load (u := (Fl r3)) (ev rfl) Try.isAgg22 (Cells.at (Blk.cells (((hB10.ext E18).ext E27).wr W34 (Nat.ne_of_lt n29))) 1 rfl)) rfl ?_
  refine q_is (l' := [(.agg #[(Fl r1), (Fl r3), (Fl r5)]), (Pt b8 0), (Pt b15 0), (Pt b24 0), (Pt b8 0), (Fl r1), (Pt b24 0), (Pt b8 1), (Fl r3), (Pt b24 1), Ud, Ud, Ud, Ud]) rfl rfl (does_fieldAddr (ev rfl) fa31_1) rfl ?_
  refine seqn rfl rfl (does_store (n := 1) (cs := [(Fl r1), (Fl 0), (Fl 0)]) (u := (Fl r3)) (ev rfl) (ev rfl) Try.sizeOf22 rfl hB35 (Nat.le_of_ble_eq_true rfl) rfl) ?_; rintro _ w41 ⟨rfl, W39, hB40⟩
  change Blk _ _ [(Fl r1), (Fl r3), (Fl 0)] at hB40
  have X42 := Below.wr X37 W39 g31
  refine wpList_nil (hK38 _ _ ?_)
  refine wp_seq_k fun K43 hK43 => ?_
  refine wp_region_lit ?_
  refine q_is (l' := [(.agg #[(Fl r1), (Fl r3), (Fl r5)]), (Pt b8 0), (Pt b15 0), (Pt b24 0), (Pt b8 0), (Fl r1), (Pt b24 0), (Pt b8 1), (Fl r3), (Pt b24 1), (Pt b8 2), Ud, Ud, Ud]) rfl rfl (does_fieldAddr (ev rfl) fa24_2) rfl ?_
  refine q_is (l' := [(.agg #[(Fl r1), (Fl r3), (Fl r5)]), (Pt b8 0), (Pt b15 0), (Pt b24 0), (Pt b8 0), (Fl r1), (Pt b24 0), (Pt b8 1), (Fl r3), (Pt b24 1), (Pt b8 2), (Fl r5), Ud, Ud]) rfl rfl (does_load (u := (Fl r5)) (ev rfl) Try.isAgg22 (Cells.at (Blk.cells ((((hB10.ext E18).ext E27).wr W34 (Nat.ne_of_lt n29)).wr W39 (Nat.ne_of_lt n29))) 2 rfl)) rfl ?_
  refine q_is (l' := [(.agg #[(Fl r1), (Fl r3), (Fl r5)]), (Pt b8 0), (Pt b15 0), (Pt b24 0), (Pt b8 0), (Fl r1), (Pt b24 0), (Pt b8 1), (Fl r3), (Pt b24 1), (Pt b8 2), (Fl r5), (Pt b24 2), Ud]) rfl rfl (does_fieldAddr (ev rfl) fa31_2) rfl ?_
  refine seqn rfl rfl (does_store (n := 1) (cs := [(Fl r1), (Fl r3), (Fl 0)]) (u := (Fl r5)) (ev rfl) (ev rfl) Try.sizeOf22 rfl hB40 (Nat.le_of_ble_eq_true rfl) rfl) ?_; rintro _ w46 ⟨rfl, W44, hB45⟩
  change Blk _ _ [(Fl r1), (Fl r3), (Fl r5)] at hB45
  have X47 := Below.wr X42 W44 g31
  refine wpList_nil (hK43 _ _ ?_)
  refine wp_seq_k fun K48 hK48 => ?_
  refine wp_region_lit ?_
  refine q_is (l' := [(.agg #[(Fl r1), (Fl r3), (Fl r5)]), (Pt b8 0), (Pt b15 0), (Pt b24 0), (Pt b8 0), (Fl r1), (Pt b24 0), (Pt b8 1), (Fl r3), (Pt b24 1), (Pt b8 2), (Fl r5), (Pt b24 2), (.agg #[(Fl r1), (Fl r3), (Fl r5)])]) rfl rfl (does_loadAgg (cs := [(Fl r1), (Fl r3), (Fl r5)]) (ev rfl) Try.isAgg31 Try.sizeOf31 (Blk.cells hB45) rfl) rfl ?_
  refine seqn rfl rfl (does_store (n := 3) (cs := [(Fl 0), (Fl 0), (Fl 0)]) (u := (.agg #[(Fl r1), (Fl r3), (Fl r5)])) (ev rfl) (ev rfl) Try.sizeOf31 rfl ((((hB17.ext E27).wr W34 (Nat.ne_of_lt n30)).wr W39 (Nat.ne_of_lt n30)).wr W44 (Nat.ne_of_lt n30)) (Nat.le_of_ble_eq_true rfl) rfl) ?_; rintro _ w51 ⟨rfl, W49, hB50⟩
  change Blk _ _ [(Fl r1), (Fl r3), (Fl r5)] at hB50
  have X52 := Below.wr X47 W49 g21
  refine wpList_nil (hK48 _ _ ?_)
  refine wp_ret ?_
  refine ret_val (v := (.agg #[(Fl r1), (Fl r3), (Fl r5)])) (res_C rfl (slot rfl) (run_loadAgg (cs := [(Fl r1), (Fl r3), (Fl r5)]) Try.isAgg31 Try.sizeOf31 (Blk.cells hB50) rfl)) X52 ?_
  exact ⟨[(Fl r1), (Fl r3), (Fl r5)], rfl, ⟨r1, r3, r5, rfl, h2, h4, h6⟩⟩

/- laws.toFloat32S -/
theorem c_laws_toFloat32S (a : Value) (L_a : List Nat) (w : World) (hv_a : Sl RF 1 w a L_a) (hsz : L_a.length ≤ 1048576) : Gives Try.prog 19 #[a] w (fun v w' => ∃ y_1 : Value, ∃ Lw_2 : List Nat, v = y_1 ∧ Hang w.heap.size w' (fun u => Sl RF 1 u y_1 L_a) ∧ WL 1 w.heap.size w' Lw_2 y_1 L_a.length) := by
  have hlen_a := Sl.len hv_a; obtain ⟨p_a, q_a, rfl⟩ := Sl.shape hv_a
  refine enter [(.slice p_a L_a.length q_a), Ud, Ud, Ud, Ud, Ud, Ud, Ud, Ud, Ud, Ud, Ud, Ud, Ud, Ud, Ud, Ud, Ud, Ud, Ud, Ud, Ud] Try.func19 rfl Try.ntmps19 rfl ?_
  refine wp_seq_k fun K1 hK1 => ?_
  refine wp_region_lit ?_
  refine q_is (l' := [(.slice p_a L_a.length q_a), Ud, (.slice none 0 0), Ud, Ud, Ud, Ud, Ud, Ud, Ud, Ud, Ud, Ud, Ud, Ud, Ud, Ud, Ud, Ud, Ud, Ud, Ud]) rfl rfl (does_assign (u := (.slice none 0 0)) (ev rfl)) rfl ?_
  refine wpList_nil (hK1 _ _ ?_)
  refine wp_seq_k fun K2 hK2 => ?_
  refine wp_region_lit ?_
  refine q_is (l' := [(.slice p_a L_a.length q_a), Ud, (.slice none 0 0), Ud, Ud, (.slice p_a L_a.length q_a), Ud, Ud, Ud, Ud, Ud, Ud, Ud, Ud, Ud, Ud, Ud, Ud, Ud, Ud, Ud, Ud]) rfl rfl (does_move (u := (.slice p_a L_a.length q_a)) (ev rfl)) rfl ?_
  refine q_is (l' := [(.slice p_a L_a.length q_a), Ud, (.slice none 0 0), Ud, Ud, (.slice p_a L_a.length q_a), (Iv (L_a.length : Int)), Ud, Ud, Ud, Ud, Ud, Ud, Ud, Ud, Ud, Ud, Ud, Ud, Ud, Ud, Ud]) rfl rfl (does_len_slice Try.underlying25 (ev rfl)) rfl ?_
  refine seqd rfl rfl (does_makeSlice (n := L_a.length) Try.underlying25 inf22 (ev rfl) (ev rfl) (by omega)) ?_; rintro _ w7 ⟨b3, rfl, hb4, ⟨cs8, hB5, hl9, hz10⟩, E6⟩
  have g11 : w.heap.size ≤ b3 := Nat.le_trans (Below.size (Ext.refl w)) hb4
  have X12 := Ext.gr (Ext.refl w) E6
  show wpList _ _ _ _ (fr [(.slice p_a L_a.length q_a), Ud, (.slice none 0 0), Ud, Ud, (.slice p_a L_a.length q_a), (Iv (L_a.length : Int)), (.slice (some ⟨b3, 0, none⟩) L_a.length L_a.length), Ud, Ud, Ud, Ud, Ud, Ud, Ud, Ud, Ud, Ud, Ud, Ud, Ud, Ud]) _
  refine q_is (l' := [(.slice p_a L_a.length q_a), Ud, (.slice none 0 0), (.slice (some ⟨b3, 0, none⟩) L_a.length L_a.length), Ud, (.slice p_a L_a.length q_a), (Iv (L_a.length : Int)), (.slice (some ⟨b3, 0, none⟩) L_a.length L_a.length), Ud, Ud, Ud, Ud, Ud, Ud, Ud, Ud, Ud, Ud, Ud, Ud, Ud, Ud]) rfl rfl (does_assign (u := (.slice (some ⟨b3, 0, none⟩) L_a.length L_a.length)) (ev rfl)) rfl ?_
  refine wpList_nil (hK2 _ _ ?_)
  refine wp_seq_k fun K13 hK13 => ?_
  refine wp_seq_k fun K14 hK14 => ?_
  refine wp_region_lit ?_
  refine q_is (l' := [(.slice p_a L_a.length q_a), Ud, (.slice none 0 0), (.slice (some ⟨b3, 0, none⟩) L_a.length L_a.length), (Iv 0), (.slice p_a L_a.length q_a), (Iv (L_a.length : Int)), (.slice (some ⟨b3, 0, none⟩) L_a.length L_a.length), Ud, Ud, Ud, Ud, Ud, Ud, Ud, Ud, Ud, Ud, Ud, Ud, Ud, Ud]) rfl rfl (does_assign (u := (Iv 0)) (ev rfl)) rfl ?_
  refine wpList_nil (hK14 _ _ ?_)
  refine wp_block ?_
  have hF0 : Fill RF 1 w7 b3 L_a.length L_a 0 := Fill.zero hB5 hl9
  refine loop_ghost (σ := Nat) (fun k a w' => ∃ u15 : Nat → Value, a = fr [(.slice p_a L_a.length q_a), Ud, (.slice none 0 0), (.slice (some ⟨b3, 0, none⟩) L_a.length L_a.length), (Iv (k : Int)), (.slice p_a L_a.length q_a), (Iv (L_a.length : Int)), (.slice (some ⟨b3, 0, none⟩) L_a.length L_a.length), (u15 8), (u15 9), (u15 10), (u15 11), (u15 12), (u15 13), (u15 14), (u15 15), (u15 16), (u15 17), (u15 18), (u15 19), (u15 20), Ud] ∧ KpL [b3] w7 w' ∧ Fill RF 1 w' b3 L_a.length L_a k ∧ (k ≤ L_a.length)) (fun k => L_a.length - k) 0 ?_ ?_
  · refine ⟨fun t => (([(.slice p_a L_a.length q_a), Ud, (.slice none 0 0), (.slice (some ⟨b3, 0, none⟩) L_a.length L_a.length), (Iv 0), (.slice p_a L_a.length q_a), (Iv (L_a.length : Int)), (.slice (some ⟨b3, 0, none⟩) L_a.length L_a.length), Ud, Ud, Ud, Ud, Ud, Ud, Ud, Ud, Ud, Ud, Ud, Ud, Ud, Ud] : List Value)[t]?).getD undef, rfl, KpL.refl _ _, hF0, ?_⟩
    exact Nat.zero_le _
  · rintro k a w16 ⟨u15, rfl, E17, hF18, hk⟩
    have X19 := Below.kl X12 E17 (allS g11 all0) (Nat.le_refl _)
    refine wp_seq_k fun K20 hK20 => ?_
    refine wp_seq_k fun K21 hK21 => ?_
    refine wp_region_lit ?_
    refine q_is (l' := [(.slice p_a L_a.length q_a), Ud, (.slice none 0 0), (.slice (some ⟨b3, 0, none⟩) L_a.length L_a.length), (Iv (k : Int)), (.slice p_a L_a.length q_a), (Iv (L_a.length : Int)), (.slice (some ⟨b3, 0, none⟩) L_a.length L_a.length), (Iv (k : Int)), (u15 9), (u15 10), (u15 11), (u15 12), (u15 13), (u15 14), (u15 15), (u15 16), (u15 17), (u15 18), (u15 19), (u15 20), Ud]) rfl rfl (does_move (u := (Iv (k : Int))) (ev rfl)) rfl ?_
    refine q_is (l' := [(.slice p_a L_a.length q_a), Ud, (.slice none 0 0), (.slice (some ⟨b3, 0, none⟩) L_a.length L_a.length), (Iv (k : Int)), (.slice p_a L_a.length q_a), (Iv (L_a.length : Int)), (.slice (some ⟨b3, 0, none⟩) L_a.length L_a.length), (Iv (k : Int)), (.slice p_a L_a.length q_a), (u15 10), (u15 11), (u15 12), (u15 13), (u15 14), (u15 15), (u15 16), (u15 17), (u15 18), (u15 19), (u15 20), Ud]) rfl rfl (does_move (u := (.slice p_a L_a.length q_a)) (ev rfl)) rfl ?_
    refine q_is (l' := [(.slice p_a L_a.length q_a), Ud, (.slice none 0 0), (.slice (some ⟨b3, 0, none⟩) L_a.length L_a.length), (Iv (k : Int)), (.slice p_a L_a.length q_a), (Iv (L_a.length : Int)), (.slice (some ⟨b3, 0, none⟩) L_a.length L_a.length), (Iv (k : Int)), (.slice p_a L_a.length q_a), (Iv (L_a.length : Int)), (u15 11), (u15 12), (u15 13), (u15 14), (u15 15), (u15 16), (u15 17), (u15 18), (u15 19), (u15 20), Ud]) rfl rfl (does_len_slice Try.underlying25 (ev rfl)) rfl ?_
    refine q_is (l' := [(.slice p_a L_a.length q_a), Ud, (.slice none 0 0), (.slice (some ⟨b3, 0, none⟩) L_a.length L_a.length), (Iv (k : Int)), (.slice p_a L_a.length q_a), (Iv (L_a.length : Int)), (.slice (some ⟨b3, 0, none⟩) L_a.length L_a.length), (Iv (k : Int)), (.slice p_a L_a.length q_a), (Iv (L_a.length : Int)), (Bo (icmp .lss (k : Int) (L_a.length : Int))), (u15 12), (u15 13), (u15 14), (u15 15), (u15 16), (u15 17), (u15 18), (u15 19), (u15 20), Ud]) rfl rfl (does_icmp (p := (k : Int)) (q := (L_a.length : Int)) (.inr (.inr (.inl rfl))) (ev rfl) (ev rfl)) rfl ?_
    refine wpList_nil (hK21 _ _ ?_)
    refine wp_cond_split (t := icmp .lss (k : Int) (L_a.length : Int)) (ev rfl) (fun c22 => ?_) (fun c22 => ?_)
    · have c22' := c22
      (try simp only [icmp, Bool.and_eq_true, Bool.or_eq_true, Bool.and_eq_false_iff, Bool.or_eq_false_iff, Bool.not_eq_true', Bool.not_eq_false', decide_eq_true_eq, decide_eq_false_iff_not, beq_iff_eq, bne_iff_ne, beq_eq_false_iff_ne, bne_eq_false_iff_eq] at c22')
      refine wp_skip (hK20 _ _ ?_)
      refine wp_seq_k fun K23 hK23 => ?_
      refine wp_block ?_
      refine wp_region_lit ?_
      refine q_is (l' := [(.slice p_a L_a.length q_a), Ud, (.slice none 0 0), (.slice (some ⟨b3, 0, none⟩) L_a.length L_a.length), (Iv (k : Int)), (.slice p_a L_a.length q_a), (Iv (L_a.length : Int)), (.slice (some ⟨b3, 0, none⟩) L_a.length L_a.length), (Iv (k : Int)), (.slice p_a L_a.length q_a), (Iv (L_a.length : Int)), (Bo (icmp .lss (k : Int) (L_a.length : Int))), (u15 12), (u15 13), (.slice (some ⟨b3, 0, none⟩) L_a.length L_a.length), (u15 15), (u15 16), (u15 17), (u15 18), (u15 19), (u15 20), Ud]) rfl rfl (does_move (u := (.slice (some ⟨b3, 0, none⟩) L_a.length L_a.length)) (ev rfl)) rfl ?_
      refine q_is (l' := [(.slice p_a L_a.length q_a), Ud, (.slice none 0 0), (.slice (some ⟨b3, 0, none⟩) L_a.length L_a.length), (Iv (k : Int)), (.slice p_a L_a.length q_a), (Iv (L_a.length : Int)), (.slice (some ⟨b3, 0, none⟩) L_a.length L_a.length), (Iv (k : Int)), (.slice p_a L_a.length q_a), (Iv (L_a.length : Int)), (Bo (icmp .lss (k : Int) (L_a.length : Int))), (u15 12), (u15 13), (.slice (some ⟨b3, 0, none⟩) L_a.length L_a.length), (Iv (k : Int)), (u15 16), (u15 17), (u15 18), (u15 19), (u15 20), Ud]) rfl rfl (does_move (u := (Iv (k : Int))) (ev rfl)) rfl ?_
      refine q_is (l' := [(.slice p_a L_a.length q_a), Ud, (.slice none 0 0), (.slice (some ⟨b3, 0, none⟩) L_a.length L_a.length), (Iv (k : Int)), (.slice p_a L_a.length q_a), (Iv (L_a.length : Int)), (.slice (some ⟨b3, 0, none⟩) L_a.length L_a.length), (Iv (k : Int)), (.slice p_a L_a.length q_a), (Iv (L_a.length : Int)), (Bo (icmp .lss (k : Int) (L_a.length : Int))), (u15 12), (u15 13), (.slice (some ⟨b3, 0, none⟩) L_a.length L_a.length), (Iv (k : Int)), (.slice p_a L_a.length q_a), (u15 17), (u15 18), (u15 19), (u15 20), Ud]) rfl rfl (does_move (u := (.slice p_a L_a.length q_a)) (ev rfl)) rfl ?_
      refine q_is (l' := [(.slice p_a L_a.length q_a), Ud, (.slice none 0 0), (.slice (some ⟨b3, 0, none⟩) L_a.length L_a.length), (Iv (k : Int)), (.slice p_a L_a.length q_a), (Iv (L_a.length : Int)), (.slice (some ⟨b3, 0, none⟩) L_a.length L_a.length), (Iv (k : Int)), (.slice p_a L_a.length q_a), (Iv (L_a.length : Int)), (Bo (icmp .lss (k : Int) (L_a.length : Int))), (u15 12), (u15 13), (.slice (some ⟨b3, 0, none⟩) L_a.length L_a.length), (Iv (k : Int)), (.slice p_a L_a.length q_a), (Iv (k : Int)), (u15 18), (u15 19), (u15 20), Ud]) rfl rfl (does_move (u := (Iv (k : Int))) (ev rfl)) rfl ?_
      obtain ⟨el1, hel1⟩ : ∃ e, L_a[k]? = some e := ⟨_, List.getElem?_eq_getElem (by omega)⟩
      refine seqd rfl rfl (does_indexSl (R := RF) (i := (k : Int)) (xs := L_a) (e := el1) Try.underlying25 Try.sizeOf22 (ev rfl) (ev rfl) (Sl.ext hv_a RF.mono X19) (by omega) hel1) ?_; rintro _ w16 ⟨b24, o25, _, rfl, hc27, ⟨r28, rfl, h29⟩, rfl⟩
      show wpList _ _ _ _ (fr [(.slice p_a L_a.length q_a), Ud, (.slice none 0 0), (.slice (some ⟨b3, 0, none⟩) L_a.length L_a.length), (Iv (k : Int)), (.slice p_a L_a.length q_a), (Iv (L_a.length : Int)), (.slice (some ⟨b3, 0, none⟩) L_a.length L_a.length), (Iv (k : Int)), (.slice p_a L_a.length q_a), (Iv (L_a.length : Int)), (Bo (icmp .lss (k : Int) (L_a.length : Int))), (u15 12), (u15 13), (.slice (some ⟨b3, 0, none⟩) L_a.length L_a.length), (Iv (k : Int)), (.slice p_a L_a.length q_a), (Iv (k : Int)), (Pt b24 o25), (u15 19), (u15 20), Ud]) _
      refine q_is (l' := [(.slice p_a L_a.length q_a), Ud, (.slice none 0 0), (.slice (some ⟨b3, 0, none⟩) L_a.length L_a.length), (Iv (k : Int)), (.slice p_a L_a.length q_a), (Iv (L_a.length : Int)), (.slice (some ⟨b3, 0, none⟩) L_a.length L_a.length), (Iv (k : Int)), (.slice p_a L_a.length q_a), (Iv (L_a.length : Int)), (Bo (icmp .lss (k : Int) (L_a.length : Int))), (u15 12), (u15 13), (.slice (some ⟨b3, 0, none⟩) L_a.length L_a.length), (Iv (k : Int)), (.slice p_a L_a.length q_a), (Iv (k : Int)), (Pt b24 o25), (Fl r28), (u15 20), Ud]) rfl rfl (does_load (u := (Fl r28)) (ev rfl) Try.isAgg22 (Cells.at hc27 0 rfl)) rfl ?_
      refine q_is (l' := [(.slice p_a L_a.length q_a), Ud, (.slice none 0 0), (.slice (some ⟨b3, 0, none⟩) L_a.length L_a.length), (Iv (k : Int)), (.slice p_a L_a.length q_a), (Iv (L_a.length : Int)), (.slice (some ⟨b3, 0, none⟩) L_a.length L_a.length), (Iv (k : Int)), (.slice p_a L_a.length q_a), (Iv (L_a.length : Int)), (Bo (icmp .lss (k : Int) (L_a.length : Int))), (u15 12), (u15 13), (.slice (some ⟨b3, 0, none⟩) L_a.length L_a.length), (Iv (k : Int)), (.slice p_a L_a.length q_a), (Iv (k : Int)), (Pt b24 o25), (Fl r28), (Pt b3 (k * 1)), Ud]) rfl rfl (does_indexOwn (b := b3) (n := L_a.length) (i := (k : Int)) Try.underlying25 Try.sizeOf22 (ev rfl) (ev rfl) (by omega) (by omega)) rfl ?_
      refine seqn rfl rfl (does_fill (R := RF) (k := 1) (n := L_a.length) (j := k) (xs := L_a) (u := (Fl r28)) (e := el1) (ev rfl) (ev rfl) Try.sizeOf22 rfl rfl hF18 (by omega) hel1 (fun _ => ⟨_, rfl, h29⟩) (fun _ _ _ _ h => h)) ?_; rintro _ w32 ⟨rfl, W30, hF31⟩
      have X33 := Below.wr X19 W30 g11
      refine wpList_nil (hK23 _ _ ?_)
      refine wp_region_lit ?_
      refine q_is (l' := [(.slice p_a L_a.length q_a), Ud, (.slice none 0 0), (.slice (some ⟨b3, 0, none⟩) L_a.length L_a.length), (Iv (k : Int)), (.slice p_a L_a.length q_a), (Iv (L_a.length : Int)), (.slice (some ⟨b3, 0, none⟩) L_a.length L_a.length), (Iv (k : Int)), (.slice p_a L_a.length q_a), (Iv (L_a.length : Int)), (Bo (icmp .lss (k : Int) (L_a.length : Int))), (Iv (k : Int)), (u15 13), (.slice (some ⟨b3, 0, none⟩) L_a.length L_a.length), (Iv (k : Int)), (.slice p_a L_a.length q_a), (Iv (k : Int)), (Pt b24 o25), (Fl r28), (Pt b3 (k * 1)), Ud]) rfl rfl (does_move (u := (Iv (k : Int))) (ev rfl)) rfl ?_
      refine q_is (l' := [(.slice p_a L_a.length q_a), Ud, (.slice none 0 0), (.slice (some ⟨b3, 0, none⟩) L_a.length L_a.length), (Iv (k : Int)), (.slice p_a L_a.length q_a), (Iv (L_a.length : Int)), (.slice (some ⟨b3, 0, none⟩) L_a.length L_a.length), (Iv (k : Int)), (.slice p_a L_a.length q_a), (Iv (L_a.length : Int)), (Bo (icmp .lss (k : Int) (L_a.length : Int))), (Iv (k : Int)), (Iv ((k : Int) + 1)), (.slice (some ⟨b3, 0, none⟩) L_a.length L_a.length), (Iv (k : Int)), (.slice p_a L_a.length q_a), (Iv (k : Int)), (Pt b24 o25), (Fl r28), (Pt b3 (k * 1)), Ud]) rfl rfl (does_iarith (p := (k : Int)) (q := 1) (r := (k : Int) + 1) (ev rfl) (ev rfl) (.inl ⟨rfl, (in_i64 (by omega) (by omega)).symm⟩)) rfl ?_
      refine q_is (l' := [(.slice p_a L_a.length q_a), Ud, (.slice none 0 0), (.slice (some ⟨b3, 0, none⟩) L_a.length L_a.length), (Iv ((k : Int) + 1)), (.slice p_a L_a.length q_a), (Iv (L_a.length : Int)), (.slice (some ⟨b3, 0, none⟩) L_a.length L_a.length), (Iv (k : Int)), (.slice p_a L_a.length q_a), (Iv (L_a.length : Int)), (Bo (icmp .lss (k : Int) (L_a.length : Int))), (Iv (k : Int)), (Iv ((k : Int) + 1)), (.slice (some ⟨b3, 0, none⟩) L_a.length L_a.length), (Iv (k : Int)), (.slice p_a L_a.length q_a), (Iv (k : Int)), (Pt b24 o25), (Fl r28), (Pt b3 (k * 1)), Ud]) rfl rfl (does_assign (u := (Iv ((k : Int) + 1))) (ev rfl)) rfl ?_
      refine wpList_nil ?_
      refine ⟨k + 1, ⟨fun t => (([(.slice p_a L_a.length q_a), Ud, (.slice none 0 0), (.slice (some ⟨b3, 0, none⟩) L_a.length L_a.length), (Iv ((k : Int) + 1)), (.slice p_a L_a.length q_a), (Iv (L_a.length : Int)), (.slice (some ⟨b3, 0, none⟩) L_a.length L_a.length), (Iv (k : Int)), (.slice p_a L_a.length q_a), (Iv (L_a.length : Int)), (Bo (icmp .lss (k : Int) (L_a.length : Int))), (Iv (k : Int)), (Iv ((k : Int) + 1)), (.slice (some ⟨b3, 0, none⟩) L_a.length L_a.length), (Iv (k : Int)), (.slice p_a L_a.length q_a), (Iv (k : Int)), (Pt b24 o25), (Fl r28), (Pt b3 (k * 1)), Ud] : List Value)[t]?).getD undef, ?_, (KpL.more E17 (KpL.of_wr W30) (allS (.inl (by simp)) all0)), hF31, ?_⟩, ?_⟩
      · first | rfl | (simp only [Nat.cast_add, Nat.cast_one, Int.natCast_add, Int.natCast_one]; rfl)
      · omega
      · omega
    have c22' := c22
    (try simp only [icmp, Bool.and_eq_true, Bool.or_eq_true, Bool.and_eq_false_iff, Bool.or_eq_false_iff, Bool.not_eq_true', Bool.not_eq_false', decide_eq_true_eq, decide_eq_false_iff_not, beq_iff_eq, bne_iff_ne, beq_eq_false_iff_ne, bne_eq_false_iff_eq] at c22')
    refine wp_exit ?_
    refine hK13 _ _ ?_
    refine wp_seq_k fun K34 hK34 => ?_
    refine wp_region_lit ?_
    refine q_is (l' := [(.slice p_a L_a.length q_a), Ud, (.slice none 0 0), (.slice (some ⟨b3, 0, none⟩) L_a.length L_a.length), (Iv (k : Int)), (.slice p_a L_a.length q_a), (Iv (L_a.length : Int)), (.slice (some ⟨b3, 0, none⟩) L_a.length L_a.length), (Iv (k : Int)), (.slice p_a L_a.length q_a), (Iv (L_a.length : Int)), (Bo (icmp .lss (k : Int) (L_a.length : Int))), (u15 12), (u15 13), (u15 14), (u15 15), (u15 16), (u15 17), (u15 18), (u15 19), (u15 20), (.slice (some ⟨b3, 0, none⟩) L_a.length L_a.length)]) rfl rfl (does_move (u := (.slice (some ⟨b3, 0, none⟩) L_a.length L_a.length)) (ev rfl)) rfl ?_
    refine q_is (l' := [(.slice p_a L_a.length q_a), Ud, (.slice (some ⟨b3, 0, none⟩) L_a.length L_a.length), (.slice (some ⟨b3, 0, none⟩) L_a.length L_a.length), (Iv (k : Int)), (.slice p_a L_a.length q_a), (Iv (L_a.length : Int)), (.slice (some ⟨b3, 0, none⟩) L_a.length L_a.length), (Iv (k : Int)), (.slice p_a L_a.length q_a), (Iv (L_a.length : Int)), (Bo (icmp .lss (k : Int) (L_a.length : Int))), (u15 12), (u15 13), (u15 14), (u15 15), (u15 16), (u15 17), (u15 18), (u15 19), (u15 20), (.slice (some ⟨b3, 0, none⟩) L_a.length L_a.length)]) rfl rfl (does_assign (u := (.slice (some ⟨b3, 0, none⟩) L_a.length L_a.length)) (ev rfl)) rfl ?_
    refine wpList_nil (hK34 _ _ ?_)
    refine wp_ret ?_
    refine ret_val (v := (.slice (some ⟨b3, 0, none⟩) L_a.length L_a.length)) (res_T rfl (slot rfl)) X19 ?_
    exact ⟨(.slice (some ⟨b3, 0, none⟩) L_a.length L_a.length), [b3], rfl, (Fill.hang hF18 RF.flat g11 (by omega) rfl (by omega) (by decide)), (Fill.wl hF18 g11)⟩

/- laws.toGrid -/
theorem c_laws_toGrid (a : List Value) (A_a : GridT) (w : World) (hv_a : RGridT w A_a a) (hsz : A_a.vals.length ≤ 1048576) : Gives Try.prog 7 #[(.agg a.toArray)] w (fun v w' => ∃ cs_1 : List Value, ∃ Lw_2 : List Nat, v = (.agg cs_1.toArray) ∧ Hang w.heap.size w' (fun u => RGridT u A_a cs_1) ∧ WL 1 w.heap.size w' Lw_2 (cellN cs_1 7) A_a.vals.length) := by
  obtain ⟨r1, r3, r5, r7, y9, rfl, h2, h4, h6, h8, h10⟩ := hv_a
  have hs13 := h10; have hs13l := Sl.len h10; obtain ⟨p11, q12, rfl⟩ := Sl.shape h10
  refine enter [(.agg #[(Fl r1), (Fl r3), (Fl r5), (Fl r7), (Iv A_a.x), (Iv A_a.y), (Iv A_a.z), (.slice p11 A_a.vals.length q12)]), Ud, Ud, Ud, Ud, Ud, Ud, Ud, Ud, Ud, Ud, Ud, Ud, Ud, Ud, Ud, Ud, Ud, Ud, Ud, Ud, Ud, Ud, Ud, Ud] Try.func7 rfl Try.ntmps7 rfl ?_
  refine wp_seq_k fun K14 hK14 => ?_
  refine wp_region_lit ?_
  refine seqd rfl rfl (does_box (u := (.agg #[(Fl r1), (Fl r3), (Fl r5), (Fl r7), (Iv A_a.x), (Iv A_a.y), (Iv A_a.z), (.slice p11 A_a.vals.length q12)])) (ev rfl)) ?_; rintro _ w19 ⟨b15, rfl, hb16, hB17, E18⟩
  have g20 : w.heap.size ≤ b15 := Nat.le_trans (Below.size (Ext.refl w)) hb16
  change Blk _ _ [(Fl r1), (Fl r3), (Fl r5), (Fl r7), (Iv A_a.x), (Iv A_a.y), (Iv A_a.z), (.slice p11 A_a.vals.length q12)] at hB17
  have X21 := Ext.gr (Ext.refl w) E18
  show wpList _ _ _ _ (fr [(.agg #[(Fl r1), (Fl r3), (Fl r5), (Fl r7), (Iv A_a.x), (Iv A_a.y), (Iv A_a.z), (.slice p11 A_a.vals.length q12)]), (Pt b15 0), Ud, Ud, Ud, Ud, Ud, Ud, Ud, Ud, Ud, Ud, Ud, Ud, Ud, Ud, Ud, Ud, Ud, Ud, Ud, Ud, Ud, Ud, Ud]) _
  refine seqd rfl rfl (does_alloc z33) ?_; rintro _ w26 ⟨b22, rfl, hb23, hB24, E25⟩
  have n27 : b15 < b22 := Nat.lt_of_lt_of_le (Blk.lt hB17) hb23
  have g28 : w.heap.size ≤ b22 := Nat.le_trans (Below.size X21) hb23
  change Blk _ _ [(Fl 0), (Fl 0), (Fl 0), (Fl 0), (Iv 0), (Iv 0), (Iv 0), (.slice none 0 0)] at hB24
  have X29 := Ext.gr X21 E25
  show wpList _ _ _ _ (fr [(.agg #[(Fl r1), (Fl r3), (Fl r5), (Fl r7), (Iv A_a.x), (Iv A_a.y), (Iv A_a.z), (.slice p11 A_a.vals.length q12)]), (Pt b15 0), (Pt b22 0), Ud, Ud, Ud, Ud, Ud, Ud, Ud, Ud, Ud, Ud, Ud, Ud, Ud, Ud, Ud, Ud, Ud, Ud, Ud, Ud, Ud, Ud]) _
  refine wpList_nil (hK14 _ _ ?_)
  refine wp_seq_k fun K30 hK30 => ?_
  refine wp_region_lit ?_
  refine seqd rfl rfl (does_alloc z33) ?_; rintro _ w35 ⟨b31, rfl, hb32, hB33, E34⟩
  have n36 : b15 < b31 := Nat.lt_of_lt_of_le (Blk.lt (hB17.ext E25)) hb32
  have n37 : b22 < b31 := Nat.lt_of_lt_of_le (Blk.lt hB24) hb32
  have g38 : w.heap.size ≤ b31 := Nat.le_trans (Below.size X29) hb32
  change Blk _ _ [(Fl 0), (Fl 0), (Fl 0), (Fl 0), (Iv 0), (Iv 0), (Iv 0), (.slice none 0 0)] at hB33
  have X39 := Ext.gr X29 E34
  show wpList _ _ _ _ (fr [(.agg #[(Fl r1), (Fl r3), (Fl r5), (Fl r7), (Iv A_a.x), (Iv A_a.y), (Iv A_a.z), (.slice p11 A_a.vals.length q12)]), (Pt b15 0), (Pt b22 0), (Pt b31 0), Ud, Ud, Ud, Ud, Ud, Ud, Ud, Ud, Ud, Ud, Ud, Ud, Ud, Ud, Ud, Ud, Ud, Ud, Ud, Ud, Ud]) _
  refine wpList_nil (hK30 _ _ ?_)
  refine wp_seq_k fun K40 hK40 => ?_
  refine wp_region_lit ?_
  refine q_is rfl rfl (does_fieldAddr (ev rfl) fa27_0) (by dsimp only [List.set]; try rfl) ?_
  refine q_is rfl rfl (does_loadAgg (cs := [(Fl r1), (Fl r3), (Fl r5)]) (ev rfl) Try.isAgg24 Try.sizeOf24 (Cells.sub (Blk.cells ((hB17.ext E25).ext E34)) 0 3) rfl) (by dsimp only [List.set]; try rfl) ?_
  refine seqd rfl rfl (does_call (args := #[(.agg #[(Fl r1), (Fl r3), (Fl r5)])]) cal8 (evs rfl) (c_laws_toVector [(Fl r1), (Fl r3), (Fl r5)] A_a.low _ ⟨r1, r3, r5, rfl, h2, h4, h6⟩)) ?_; rintro _ w42 ⟨E41, ⟨_, rfl, ⟨r43, r45, r47, rfl, h44, h46, h48⟩⟩⟩
  have X49 := Ext.gr X39 E41
  show wpList _ _ _ _ (fr [(.agg #[(Fl r1), (Fl r3), (Fl r5), (Fl r7), (Iv A_a.x), (Iv A_a.y), (Iv A_a.z), (.slice p11 A_a.vals.length q12)]), (Pt b15 0), (Pt b22 0), (Pt b31 0), (Pt b15 0), (.agg #[(Fl r1), (Fl r3), (Fl r5)]), (.agg #[(Fl r43), (Fl r45), (Fl r47)]), Ud, Ud, Ud, Ud, Ud, Ud, Ud, Ud, Ud, Ud, Ud, Ud, Ud, Ud, Ud, Ud, Ud, Ud]) _
  refine q_is rfl rfl (does_fieldAddr (ev rfl) fa33_0) (by dsimp only [List.set]; try rfl) ?_
  refine seqn rfl rfl (does_store (n := 3) (cs := [(Fl 0), (Fl 0), (Fl 0), (Fl 0), (Iv 0), (Iv 0), (Iv 0), (.slice none 0 0)]) (u := (.agg #[(Fl r43), (Fl r45), (Fl r47)])) (ev rfl) (ev rfl) Try.sizeOf31 rfl (hB33.ext E41) (Nat.le_of_ble_eq_true rfl) rfl) ?_; rintro _ w52 ⟨rfl, W50, hB51⟩
  change Blk _ _ [(Fl r43), (Fl r45), (Fl r47), (Fl 0), (Iv 0), (Iv 0), (Iv 0), (.slice none 0 0)] at hB51
  have X53 := Below.wr X49 W50 g38
  refine wpList_nil (hK40 _ _ ?_)
  refine wp_seq_k fun K54 hK54 => ?_
  refine wp_region_lit ?_
  refine q_is rfl rfl (does_fieldAddr (ev rfl) fa27_1) (by dsimp only [List.set]; try rfl) ?_
  refine q_is rfl rfl (does_load (u := (Fl r7)) (ev rfl) Try.isAgg22 (Cells.at (Blk.cells ((((hB17.ext E25).ext E34).ext E41).wr W50 (Nat.ne_of_lt n36))) 3 rfl)) (by dsimp only [List.set]; try rfl) ?_
  refine q_is rfl rfl (does_fieldAddr (ev rfl) fa33_1) (by dsimp only [List.set]; try rfl) ?_
  refine seqn rfl rfl (does_store (n := 1) (cs := [(Fl r43), (Fl r45), (Fl r47), (Fl 0), (Iv 0), (Iv 0), (Iv 0), (.slice none 0 0)]) (u := (Fl r7)) (ev rfl) (ev rfl) Try.sizeOf22 rfl hB51 (Nat.le_of_ble_eq_true rfl) rfl) ?_; rintro _ w57 ⟨rfl, W55, hB56⟩
  change Blk _ _ [(Fl r43), (Fl r45), (Fl r47), (Fl r7), (Iv 0), (Iv 0), (Iv 0), (.slice none 0 0)] at hB56
  have X58 := Below.wr X53 W55 g38
  refine wpList_nil (hK54 _ _ ?_)
  refine wp_seq_k fun K59 hK59 => ?_
  refine wp_region_lit ?_
  refine q_is rfl rfl (does_fieldAddr (ev rfl) fa27_2) (by dsimp only [List.set]; try rfl) ?_
  refine q_is rfl rfl (does_load (u := (Iv A_a.x)) (ev rfl) Try.isAgg2 (Cells.at (Blk.cells (((((hB17.ext E25).ext E34).ext E41).wr W50 (Nat.ne_of_lt n36)).wr W55 (Nat.ne_of_lt n36))) 4 rfl)) (by dsimp only [List.set]; try rfl) ?_
  refine q_is rfl rfl (does_fieldAddr (ev rfl) fa33_2) (by dsimp only [List.set]; try rfl) ?_
  refine seqn rfl rfl (does_store (n := 1) (cs := [(Fl r43), (Fl r45), (Fl r47), (Fl r7), (Iv 0), (Iv 0), (Iv 0), (.slice none 0 0)]) (u := (Iv A_a.x)) (ev rfl) (ev rfl) Try.sizeOf2 rfl hB56 (Nat.le_of_ble_eq_true rfl) rfl) ?_; rintro _ w62 ⟨rfl, W60, hB61⟩
  change Blk _ _ [(Fl r43), (Fl r45), (Fl r47), (Fl r7), (Iv A_a.x), (Iv 0), (Iv 0), (.slice none 0 0)] at hB61
  have X63 := Below.wr X58 W60 g38
  refine wpList_nil (hK59 _ _ ?_)
  refine wp_seq_k fun K64 hK64 => ?_
  refine wp_region_lit ?_
  refine q_is rfl rfl (does_fieldAddr (ev rfl) fa27_3) (by dsimp only [List.set]; try rfl) ?_
  refine q_is rfl rfl (does_load (u := (Iv A_a.y)) (ev rfl) Try.isAgg2 (Cells.at (Blk.cells ((((((hB17.ext E25).ext E34).ext E41).wr W50 (Nat.ne_of_lt n36)).wr W55 (Nat.ne_of_lt n36)).wr W60 (Nat.ne_of_lt n36))) 5 rfl)) (by dsimp only [List.set]; try rfl) ?_
  refine q_is rfl rfl (does_fieldAddr (ev rfl) fa33_3) (by dsimp only [List.set]; try rfl) ?_
  refine seqn rfl rfl (does_store (n := 1) (cs := [(Fl r43), (Fl r45), (Fl r47), (Fl r7), (Iv A_a.x), (Iv 0), (Iv 0), (.slice none 0 0)]) (u := (Iv A_a.y)) (ev rfl) (ev rfl) Try.sizeOf2 rfl hB61 (Nat.le_of_ble_eq_true rfl) rfl) ?_; rintro _ w67 ⟨rfl, W65, hB66⟩
  change Blk _ _ [(Fl r43), (Fl r45), (Fl r47), (Fl r7), (Iv A_a.x), (Iv A_a.y), (Iv 0), (.slice none 0 0)] at hB66
  have X68 := Below.wr X63 W65 g38
  refine wpList_nil (hK64 _ _ ?_)
  refine wp_seq_k fun K69 hK69 => ?_
  refine wp_region_lit ?_
  refine q_is rfl rfl (does_fieldAddr (ev rfl) fa27_4) (by dsimp only [List.set]; try rfl) ?_
  refine q_is rfl rfl (does_load (u := (Iv A_a.z)) (ev rfl) Try.isAgg2 (Cells.at (Blk.cells (((((((hB17.ext E25).ext E34).ext E41).wr W50 (Nat.ne_of_lt n36)).wr W55 (Nat.ne_of_lt n36)).wr W60 (Nat.ne_of_lt n36)).wr W65 (Nat.ne_of_lt n36))) 6 rfl)) (by dsimp only [List.set]; try rfl) ?_
  refine q_is rfl rfl (does_fieldAddr (ev rfl) fa33_4) (by dsimp only [List.set]; try rfl) ?_
  refine seqn rfl rfl (does_store (n := 1) (cs := [(Fl r43), (Fl r45), (Fl r47), (Fl r7), (Iv A_a.x), (Iv A_a.y), (Iv 0), (.slice none 0 0)]) (u := (Iv A_a.z)) (ev rfl) (ev rfl) Try.sizeOf2 rfl hB66 (Nat.le_of_ble_eq_true rfl) rfl) ?_; rintro _ w72 ⟨rfl, W70, hB71⟩
  change Blk _ _ [(Fl r43), (Fl r45), (Fl r47), (Fl r7), (Iv A_a.x), (Iv A_a.y), (Iv A_a.z), (.slice none 0 0)] at hB71
  have X73 := Below.wr X68 W70 g38
  refine wpList_nil (hK69 _ _ ?_)
  refine wp_seq_k fun K74 hK74 => ?_
  refine wp_region_lit ?_
  refine q_is rfl rfl (does_fieldAddr (ev rfl) fa27_5) (by dsimp only [List.set]; try rfl) ?_
  refine q_is rfl rfl (does_load (u := (.slice p11 A_a.vals.length q12)) (ev rfl) Try.isAgg25 (Cells.at (Blk.cells ((((((((hB17.ext E25).ext E34).ext E41).wr W50 (Nat.ne_of_lt n36)).wr W55 (Nat.ne_of_lt n36)).wr W60 (Nat.ne_of_lt n36)).wr W65 (Nat.ne_of_lt n36)).wr W70 (Nat.ne_of_lt n36))) 7 rfl)) (by dsimp only [List.set]; try rfl) ?_
  refine seqd rfl rfl (does_call (args := #[(.slice p11 A_a.vals.length q12)]) cal19 (evs rfl) (c_laws_toFloat32S (.slice p11 A_a.vals.length q12) A_a.vals _ (Sl.ext hs13 RF.mono X73) (by omega))) ?_; rintro _ w76 ⟨E75, ⟨y78, Lw79, rfl, hh77, hw80⟩⟩
  have X81 := Ext.gr X73 E75
  have n82 : b15 < w72.heap.size := Blk.lt ((((((((hB17.ext E25).ext E34).ext E41).wr W50 (Nat.ne_of_lt n36)).wr W55 (Nat.ne_of_lt n36)).wr W60 (Nat.ne_of_lt n36)).wr W65 (Nat.ne_of_lt n36)).wr W70 (Nat.ne_of_lt n36))
  have n83 : b22 < w72.heap.size := Blk.lt (((((((hB24.ext E34).ext E41).wr W50 (Nat.ne_of_lt n37)).wr W55 (Nat.ne_of_lt n37)).wr W60 (Nat.ne_of_lt n37)).wr W65 (Nat.ne_of_lt n37)).wr W70 (Nat.ne_of_lt n37))
  have n84 : b31 < w72.heap.size := Blk.lt hB71
  obtain ⟨p85, q86, rfl⟩ := Sl.shape hh77.get
  have hw87 : WL 1 w72.heap.size w76 Lw79 (.slice p85 A_a.vals.length q86) A_a.vals.length := hw80
  show wpList _ _ _ _ (fr [(.agg #[(Fl r1), (Fl r3), (Fl r5), (Fl r7), (Iv A_a.x), (Iv A_a.y), (Iv A_a.z), (.slice p11 A_a.vals.length q12)]), (Pt b15 0), (Pt b22 0), (Pt b31 0), (Pt b15 0), (.agg #[(Fl r1), (Fl r3), (Fl r5)]), (.agg #[(Fl r43), (Fl r45), (Fl r47)]), (Pt b31 0), (Pt b15 3), (Fl r7), (Pt b31 3), (Pt b15 4), (Iv A_a.x), (Pt b31 4), (Pt b15 5), (Iv A_a.y), (Pt b31 5), (Pt b15 6), (Iv A_a.z), (Pt b31 6), (Pt b15 7), (.slice p11 A_a.vals.length q12), (.slice p85 A_a.vals.length q86), Ud, Ud]) _
  refine q_is rfl rfl (does_fieldAddr (ev rfl) fa33_5) (by dsimp only [List.set]; try rfl) ?_
  refine seqn rfl rfl (does_store (n := 1) (cs := [(Fl r43), (Fl r45), (Fl r47), (Fl r7), (Iv A_a.x), (Iv A_a.y), (Iv A_a.z), (.slice none 0 0)]) (u := (.slice p85 A_a.vals.length q86)) (ev rfl) (ev rfl) Try.sizeOf25 rfl (hB71.ext E75) (Nat.le_of_ble_eq_true rfl) rfl) ?_; rintro _ w90 ⟨rfl, W88, hB89⟩
  change Blk _ _ [(Fl r43), (Fl r45), (Fl r47), (Fl r7), (Iv A_a.x), (Iv A_a.y), (Iv A_a.z), (.slice p85 A_a.vals.length q86)] at hB89
  have X91 := Below.wr X81 W88 g38
  refine wpList_nil (hK74 _ _ ?_)
  refine wp_seq_k fun K92 hK92 => ?_
  refine wp_region_lit ?_
  refine q_is rfl rfl (does_loadAgg (cs := [(Fl r43), (Fl r45), (Fl r47), (Fl r7), (Iv A_a.x), (Iv A_a.y), (Iv A_a.z), (.slice p85 A_a.vals.length q86)]) (ev rfl) Try.isAgg33 Try.sizeOf33 (Blk.cells hB89) rfl) (by dsimp only [List.set]; try rfl) ?_
  refine seqn rfl rfl (does_store (n := 8) (cs := [(Fl 0), (Fl 0), (Fl 0), (Fl 0), (Iv 0), (Iv 0), (Iv 0), (.slice none 0 0)]) (u := (.agg #[(Fl r43), (Fl r45), (Fl r47), (Fl r7), (Iv A_a.x), (Iv A_a.y), (Iv A_a.z), (.slice p85 A_a.vals.length q86)])) (ev rfl) (ev rfl) Try.sizeOf33 rfl (((((((((hB24.ext E34).ext E41).wr W50 (Nat.ne_of_lt n37)).wr W55 (Nat.ne_of_lt n37)).wr W60 (Nat.ne_of_lt n37)).wr W65 (Nat.ne_of_lt n37)).wr W70 (Nat.ne_of_lt n37)).ext E75).wr W88 (Nat.ne_of_lt n37)) (Nat.le_of_ble_eq_true rfl) rfl) ?_; rintro _ w95 ⟨rfl, W93, hB94⟩
  change Blk _ _ [(Fl r43), (Fl r45), (Fl r47), (Fl r7), (Iv A_a.x), (Iv A_a.y), (Iv A_a.z), (.slice p85 A_a.vals.length q86)] at hB94
  have X96 := Below.wr X91 W93 g28
  refine wpList_nil (hK92 _ _ ?_)
  refine wp_ret ?_
  refine ret_val (v := (.agg #[(Fl r43), (Fl r45), (Fl r47), (Fl r7), (Iv A_a.x), (Iv A_a.y), (Iv A_a.z), (.slice p85 A_a.vals.length q86)])) (res_C rfl (slot rfl) (run_loadAgg (cs := [(Fl r43), (Fl r45), (Fl r47), (Fl r7), (Iv A_a.x), (Iv A_a.y), (Iv A_a.z), (.slice p85 A_a.vals.length q86)]) Try.isAgg33 Try.sizeOf33 (Blk.cells hB94) rfl)) X96 ?_
  exact ⟨[(Fl r43), (Fl r45), (Fl r47), (Fl r7), (Iv A_a.x), (Iv A_a.y), (Iv A_a.z), (.slice p85 A_a.vals.length q86)], Lw79, rfl, fun u hu => ⟨r43, r45, r47, r7, (.slice p85 A_a.vals.length q86), rfl, h44, h46, h48, h8, ((Hang.to hh77 (((Same.refl _ _).wr W88 (.inl n84)).wr W93 (.inl n83))).le (Below.size (Below.wr (Below.wr (Below.wr (Below.wr (Below.wr (Ext.gr (Ext.gr (Ext.gr (Ext.gr (Ext.refl _) E18) E25) E34) E41) W50 g38) W55 g38) W60 g38) W65 g38) W70 g38))) u hu⟩, ((hw87.same (((Same.refl _ _).wr W88 (.inl n84)).wr W93 (.inl n83))).le (Below.size (Below.wr (Below.wr (Below.wr (Below.wr (Below.wr (Ext.gr (Ext.gr (Ext.gr (Ext.gr (Ext.refl _) E18) E25) E34) E41) W50 g38) W55 g38) W60 g38) W65 g38) W70 g38)))⟩

/- slices.IndexFunc[[]float32,float32] -/
theorem c_slices_IndexFunc_float32_float32 (xs : Value) (L_xs : List Nat) (f : Value) (pr_f : Nat → Bool) (w : World) (hv_xs : Sl RF 1 w xs L_xs) (hv_f : TellsF Try.prog f w pr_f) : Gives Try.prog 51 #[xs, f] w (fun v w' => v = (Iv (findI pr_f L_xs))) := by
  have hlen_xs := Sl.len hv_xs; obtain ⟨p_xs, q_xs, rfl⟩ := Sl.shape hv_xs
  obtain ⟨f_f, s_f, c_f, rfl, hcal_f, hg_f⟩ := hv_f
  refine enter [(.slice p_xs L_xs.length q_xs), (.func (.func f_f) s_f c_f), Ud, Ud, Ud, Ud, Ud, Ud, Ud, Ud, Ud, Ud, Ud, Ud, Ud, Ud, Ud, Ud, Ud] Try.func51 rfl Try.ntmps51 rfl ?_
  refine wp_seq_k fun K1 hK1 => ?_
  refine wp_region_lit ?_
  refine q_is (l' := [(.slice p_xs L_xs.length q_xs), (.func (.func f_f) s_f c_f), Ud, Ud, (Iv 0), Ud, Ud, Ud, Ud, Ud, Ud, Ud, Ud, Ud, Ud, Ud, Ud, Ud, Ud]) rfl rfl (does_assign (u := (Iv 0)) (ev rfl)) rfl ?_
  refine wpList_nil (hK1 _ _ ?_)
  refine wp_seq_k fun K2 hK2 => ?_
  refine wp_seq_k fun K3 hK3 => ?_
  refine wp_region_lit ?_
  refine q_is (l' := [(.slice p_xs L_xs.length q_xs), (.func (.func f_f) s_f c_f), Ud, Ud, (Iv 0), Ud, (.slice p_xs L_xs.length q_xs), Ud, Ud, Ud, Ud, Ud, Ud, Ud, Ud, Ud, Ud, Ud, Ud]) rfl rfl (does_move (u := (.slice p_xs L_xs.length q_xs)) (ev rfl)) rfl ?_
  refine q_is (l' := [(.slice p_xs L_xs.length q_xs), (.func (.func f_f) s_f c_f), Ud, Ud, (Iv 0), Ud, (.slice p_xs L_xs.length q_xs), (Iv (L_xs.length : Int)), Ud, Ud, Ud, Ud, Ud, Ud, Ud, Ud, Ud, Ud, Ud]) rfl rfl (does_len_slice Try.underlying25 (ev rfl)) rfl ?_
  refine q_is (l' := [(.slice p_xs L_xs.length q_xs), (.func (.func f_f) s_f c_f), Ud, Ud, (Iv 0), Ud, (.slice p_xs L_xs.length q_xs), (Iv (L_xs.length : Int)), (Iv 0), Ud, Ud, Ud, Ud, Ud, Ud, Ud, Ud, Ud, Ud]) rfl rfl (does_move (u := (Iv 0)) (ev rfl)) rfl ?_
  refine wpList_nil (hK3 _ _ ?_)
  refine wp_block ?_
  refine loop_ghost (σ := Nat) (fun k a w' => ∃ u4 : Nat → Value, a = fr [(.slice p_xs L_xs.length q_xs), (.func (.func f_f) s_f c_f), Ud, Ud, (u4 4), (u4 5), (.slice p_xs L_xs.length q_xs), (Iv (L_xs.length : Int)), (Iv (k : Int)), (u4 9), (u4 10), (u4 11), (u4 12), (u4 13), (u4 14), (u4 15), (u4 16), (u4 17), (u4 18)] ∧ Ext w w' ∧ (k ≤ L_xs.length ∧ NoneTo pr_f L_xs k)) (fun k => L_xs.length - k) 0 ?_ ?_
  · refine ⟨fun t => (([(.slice p_xs L_xs.length q_xs), (.func (.func f_f) s_f c_f), Ud, Ud, (Iv 0), Ud, (.slice p_xs L_xs.length q_xs), (Iv (L_xs.length : Int)), (Iv 0), Ud, Ud, Ud, Ud, Ud, Ud, Ud, Ud, Ud, Ud] : List Value)[t]?).getD undef, rfl, Ext.refl _, ?_⟩
    exact ⟨Nat.zero_le _, NoneTo.zero⟩
  · rintro k a w5 ⟨u4, rfl, E6, ⟨hk, hno⟩⟩
    have X8 := Ext.gr (Ext.refl w) E6
    refine wp_seq_k fun K9 hK9 => ?_
    refine wp_region_lit ?_
    refine q_is (l' := [(.slice p_xs L_xs.length q_xs), (.func (.func f_f) s_f c_f), Ud, Ud, (u4 4), (u4 5), (.slice p_xs L_xs.length q_xs), (Iv (L_xs.length : Int)), (Iv (k : Int)), (Bo (icmp .lss (k : Int) (L_xs.length : Int))), (u4 10), (u4 11), (u4 12), (u4 13), (u4 14), (u4 15), (u4 16), (u4 17), (u4 18)]) rfl rfl (does_icmp (p := (k : Int)) (q := (L_xs.length : Int)) (.inr (.inr (.inl rfl))) (ev rfl) (ev rfl)) rfl ?_
    refine wpList_nil (hK9 _ _ ?_)
    refine wp_seq_k fun K10 hK10 => ?_
    refine wp_cond_split (t := icmp .lss (k : Int) (L_xs.length : Int)) (ev rfl) (fun c11 => ?_) (fun c11 => ?_)
    · have c11' := c11
      (try simp only [icmp, Bool.and_eq_true, Bool.or_eq_true, Bool.and_eq_false_iff, Bool.or_eq_false_iff, Bool.not_eq_true', Bool.not_eq_false', decide_eq_true_eq, decide_eq_false_iff_not, beq_iff_eq, bne_iff_ne, beq_eq_false_iff_ne, bne_eq_false_iff_eq] at c11')
      refine wp_skip (hK10 _ _ ?_)
      refine wp_seq_k fun K12 hK12 => ?_
      refine wp_block ?_
      refine wp_seq_k fun K13 hK13 => ?_
      refine wp_region_lit ?_
      refine q_is (l' := [(.slice p_xs L_xs.length q_xs), (.func (.func f_f) s_f c_f), Ud, Ud, (u4 4), (u4 5), (.slice p_xs L_xs.length q_xs), (Iv (L_xs.length : Int)), (Iv (k : Int)), (Bo (icmp .lss (k : Int) (L_xs.length : Int))), (Iv (k : Int)), (u4 11), (u4 12), (u4 13), (u4 14), (u4 15), (u4 16), (u4 17), (u4 18)]) rfl rfl (does_move (u := (Iv (k : Int))) (ev rfl)) rfl ?_
      refine q_is (l' := [(.slice p_xs L_xs.length q_xs), (.func (.func f_f) s_f c_f), Ud, Ud, (u4 4), (Iv (k : Int)), (.slice p_xs L_xs.length q_xs), (Iv (L_xs.length : Int)), (Iv (k : Int)), (Bo (icmp .lss (k : Int) (L_xs.length : Int))), (Iv (k : Int)), (u4 11), (u4 12), (u4 13), (u4 14), (u4 15), (u4 16), (u4 17), (u4 18)]) rfl rfl (does_assign (u := (Iv (k : Int))) (ev rfl)) rfl ?_
      refine wpList_nil (hK13 _ _ ?_)
      refine wp_seq_k fun K14 hK14 => ?_
      refine wp_region_lit ?_
      refine q_is (l' := [(.slice p_xs L_xs.length q_xs), (.func (.func f_f) s_f c_f), Ud, Ud, (u4 4), (Iv (k : Int)), (.slice p_xs L_xs.length q_xs), (Iv (L_xs.length : Int)), (Iv (k : Int)), (Bo (icmp .lss (k : Int) (L_xs.length : Int))), (Iv (k : Int)), (.func (.func f_f) s_f c_f), (u4 12), (u4 13), (u4 14), (u4 15), (u4 16), (u4 17), (u4 18)]) rfl rfl (does_move (u := (.func (.func f_f) s_f c_f)) (ev rfl)) rfl ?_
      refine q_is (l' := [(.slice p_xs L_xs.length q_xs), (.func (.func f_f) s_f c_f), Ud, Ud, (u4 4), (Iv (k : Int)), (.slice p_xs L_xs.length q_xs), (Iv (L_xs.length : Int)), (Iv (k : Int)), (Bo (icmp .lss (k : Int) (L_xs.length : Int))), (Iv (k : Int)), (.func (.func f_f) s_f c_f), (.slice p_xs L_xs.length q_xs), (u4 13), (u4 14), (u4 15), (u4 16), (u4 17), (u4 18)]) rfl rfl (does_move (u := (.slice p_xs L_xs.length q_xs)) (ev rfl)) rfl ?_
      refine q_is (l' := [(.slice p_xs L_xs.length q_xs), (.func (.func f_f) s_f c_f), Ud, Ud, (u4 4), (Iv (k : Int)), (.slice p_xs L_xs.length q_xs), (Iv (L_xs.length : Int)), (Iv (k : Int)), (Bo (icmp .lss (k : Int) (L_xs.length : Int))), (Iv (k : Int)), (.func (.func f_f) s_f c_f), (.slice p_xs L_xs.length q_xs), (Iv (k : Int)), (u4 14), (u4 15), (u4 16), (u4 17), (u4 18)]) rfl rfl (does_move (u := (Iv (k : Int))) (ev rfl)) rfl ?_
      obtain ⟨el1, hel1⟩ : ∃ e, L_xs[k]? = some e := ⟨_, List.getElem?_eq_getElem (by omega)⟩
      refine seqd rfl rfl (does_indexSl (R := RF) (i := (k : Int)) (xs := L_xs) (e := el1) Try.underlying25 Try.sizeOf22 (ev rfl) (ev rfl) (Sl.ext hv_xs RF.mono X8) (by omega) hel1) ?_; rintro _ w5 ⟨b15, o16, _, rfl, hc18, ⟨r19, rfl, h20⟩, rfl⟩
      show wpList _ _ _ _ (fr [(.slice p_xs L_xs.length q_xs), (.func (.func f_f) s_f c_f), Ud, Ud, (u4 4), (Iv (k : Int)), (.slice p_xs L_xs.length q_xs), (Iv (L_xs.length : Int)), (Iv (k : Int)), (Bo (icmp .lss (k : Int) (L_xs.length : Int))), (Iv (k : Int)), (.func (.func f_f) s_f c_f), (.slice p_xs L_xs.length q_xs), (Iv (k : Int)), (Pt b15 o16), (u4 15), (u4 16), (u4 17), (u4 18)]) _
      refine q_is (l' := [(.slice p_xs L_xs.length q_xs), (.func (.func f_f) s_f c_f), Ud, Ud, (u4 4), (Iv (k : Int)), (.slice p_xs L_xs.length q_xs), (Iv (L_xs.length : Int)), (Iv (k : Int)), (Bo (icmp .lss (k : Int) (L_xs.length : Int))), (Iv (k : Int)), (.func (.func f_f) s_f c_f), (.slice p_xs L_xs.length q_xs), (Iv (k : Int)), (Pt b15 o16), (Fl r19), (u4 16), (u4 17), (u4 18)]) rfl rfl (does_load (u := (Fl r19)) (ev rfl) Try.isAgg22 (Cells.at hc18 0 rfl)) rfl ?_
      refine seqd rfl rfl (does_callf (args := #[(Fl r19)]) (ev rfl) hcal_f (evs rfl) (hg_f r19 _ X8)) ?_; rintro _ w22 ⟨E21, rfl⟩
      have X23 := Ext.gr X8 E21
      show wpList _ _ _ _ (fr [(.slice p_xs L_xs.length q_xs), (.func (.func f_f) s_f c_f), Ud, Ud, (u4 4), (Iv (k : Int)), (.slice p_xs L_xs.length q_xs), (Iv (L_xs.length : Int)), (Iv (k : Int)), (Bo (icmp .lss (k : Int) (L_xs.length : Int))), (Iv (k : Int)), (.func (.func f_f) s_f c_f), (.slice p_xs L_xs.length q_xs), (Iv (k : Int)), (Pt b15 o16), (Fl r19), (Bo (pr_f (cf .f32 r19))), (u4 17), (u4 18)]) _
      refine wpList_nil (hK14 _ _ ?_)
      refine wp_cond_split (t := pr_f (cf .f32 r19)) (ev rfl) (fun c24 => ?_) (fun c24 => ?_)
      · have c24' := c24
        refine wp_seq_k fun K25 hK25 => ?_
        refine wp_region_lit ?_
        refine q_is (l' := [(.slice p_xs L_xs.length q_xs), (.func (.func f_f) s_f c_f), Ud, Ud, (u4 4), (Iv (k : Int)), (.slice p_xs L_xs.length q_xs), (Iv (L_xs.length : Int)), (Iv (k : Int)), (Bo (icmp .lss (k : Int) (L_xs.length : Int))), (Iv (k : Int)), (.func (.func f_f) s_f c_f), (.slice p_xs L_xs.length q_xs), (Iv (k : Int)), (Pt b15 o16), (Fl r19), (Bo (pr_f (cf .f32 r19))), (Iv (k : Int)), (u4 18)]) rfl rfl (does_move (u := (Iv (k : Int))) (ev rfl)) rfl ?_
        refine q_is (l' := [(.slice p_xs L_xs.length q_xs), (.func (.func f_f) s_f c_f), Ud, Ud, (Iv (k : Int)), (Iv (k : Int)), (.slice p_xs L_xs.length q_xs), (Iv (L_xs.length : Int)), (Iv (k : Int)), (Bo (icmp .lss (k : Int) (L_xs.length : Int))), (Iv (k : Int)), (.func (.func f_f) s_f c_f), (.slice p_xs L_xs.length q_xs), (Iv (k : Int)), (Pt b15 o16), (Fl r19), (Bo (pr_f (cf .f32 r19))), (Iv (k : Int)), (u4 18)]) rfl rfl (does_assign (u := (Iv (k : Int))) (ev rfl)) rfl ?_
        refine wpList_nil (hK25 _ _ ?_)
        refine wp_ret ?_
        dsimp only [Exit.then, Exit.inBlock]
        refine ret_val (v := (Iv (k : Int))) (res_T rfl (slot rfl)) X23 ?_
        try simp only [hel1, h20] at c11 c24
        have x26 : (findI pr_f L_xs : Int) = (k : Int) := by first | exact findI_at hno (by assumption) (by simp_all) | exact findI_none hno (by omega)
        exact (by first | rfl | rw [x26])
      have c24' := c24
      refine wp_skip (hK12 _ _ ?_)
      refine wp_region_lit ?_
      refine q_is (l' := [(.slice p_xs L_xs.length q_xs), (.func (.func f_f) s_f c_f), Ud, Ud, (u4 4), (Iv (k : Int)), (.slice p_xs L_xs.length q_xs), (Iv (L_xs.length : Int)), (Iv (k : Int)), (Bo (icmp .lss (k : Int) (L_xs.length : Int))), (Iv (k : Int)), (.func (.func f_f) s_f c_f), (.slice p_xs L_xs.length q_xs), (Iv (k : Int)), (Pt b15 o16), (Fl r19), (Bo (pr_f (cf .f32 r19))), (u4 17), (Iv ((k : Int) + 1))]) rfl rfl (does_iarith (p := (k : Int)) (q := 1) (r := (k : Int) + 1) (ev rfl) (ev rfl) (.inl ⟨rfl, (in_i64 (by omega) (by omega)).symm⟩)) rfl ?_
      refine q_is (l' := [(.slice p_xs L_xs.length q_xs), (.func (.func f_f) s_f c_f), Ud, Ud, (u4 4), (Iv (k : Int)), (.slice p_xs L_xs.length q_xs), (Iv (L_xs.length : Int)), (Iv ((k : Int) + 1)), (Bo (icmp .lss (k : Int) (L_xs.length : Int))), (Iv (k : Int)), (.func (.func f_f) s_f c_f), (.slice p_xs L_xs.length q_xs), (Iv (k : Int)), (Pt b15 o16), (Fl r19), (Bo (pr_f (cf .f32 r19))), (u4 17), (Iv ((k : Int) + 1))]) rfl rfl (does_move (u := (Iv ((k : Int) + 1))) (ev rfl)) rfl ?_
      refine wpList_nil ?_
      refine ⟨k + 1, ⟨fun t => (([(.slice p_xs L_xs.length q_xs), (.func (.func f_f) s_f c_f), Ud, Ud, (u4 4), (Iv (k : Int)), (.slice p_xs L_xs.length q_xs), (Iv (L_xs.length : Int)), (Iv ((k : Int) + 1)), (Bo (icmp .lss (k : Int) (L_xs.length : Int))), (Iv (k : Int)), (.func (.func f_f) s_f c_f), (.slice p_xs L_xs.length q_xs), (Iv (k : Int)), (Pt b15 o16), (Fl r19), (Bo (pr_f (cf .f32 r19))), (u4 17), (Iv ((k : Int) + 1))] : List Value)[t]?).getD undef, ?_, (Ext.gr E6 E21), ?_⟩, ?_⟩
      · first | rfl | (simp only [Nat.cast_add, Nat.cast_one, Int.natCast_add, Int.natCast_one]; rfl)
      · exact ⟨by omega, NoneTo.step hno (by assumption) (by simp_all)⟩
      · omega
    have c11' := c11
    (try simp only [icmp, Bool.and_eq_true, Bool.or_eq_true, Bool.and_eq_false_iff, Bool.or_eq_false_iff, Bool.not_eq_true', Bool.not_eq_false', decide_eq_true_eq, decide_eq_false_iff_not, beq_iff_eq, bne_iff_ne, beq_eq_false_iff_ne, bne_eq_false_iff_eq] at c11')
    refine wp_exit ?_
    refine hK2 _ _ ?_
    refine wp_seq_k fun K27 hK27 => ?_
    refine wp_region_lit ?_
    refine q_is (l' := [(.slice p_xs L_xs.length q_xs), (.func (.func f_f) s_f c_f), Ud, Ud, (Iv (-1)), (u4 5), (.slice p_xs L_xs.length q_xs), (Iv (L_xs.length : Int)), (Iv (k : Int)), (Bo (icmp .lss (k : Int) (L_xs.length : Int))), (u4 10), (u4 11), (u4 12), (u4 13), (u4 14), (u4 15), (u4 16), (u4 17), (u4 18)]) rfl rfl (does_assign (u := (Iv (-1))) (ev rfl)) rfl ?_
    refine wpList_nil (hK27 _ _ ?_)
    refine wp_ret ?_
    refine ret_val (v := (Iv (-1))) (res_T rfl (slot rfl)) X8 ?_
    have x28 : (findI pr_f L_xs : Int) = (-1) := by first | exact findI_at hno (by assumption) (by simp_all) | exact findI_none hno (by omega)
    exact (by first | rfl | rw [x28])

/- slices.ContainsFunc[[]float32,float32] -/
theorem c_slices_ContainsFunc_float32_float32 (xs : Value) (L_xs : List Nat) (f : Value) (pr_f : Nat → Bool) (w : World) (hv_xs : Sl RF 1 w xs L_xs) (hv_f : TellsF Try.prog f w pr_f) : Gives Try.prog 47 #[xs, f] w (fun v w' => v = (Bo (L_xs.any pr_f))) := by
  have hlen_xs := Sl.len hv_xs; obtain ⟨p_xs, q_xs, rfl⟩ := Sl.shape hv_xs
  obtain ⟨f_f, s_f, c_f, rfl, hcal_f, hg_f⟩ := hv_f
  refine enter [(.slice p_xs L_xs.length q_xs), (.func (.func f_f) s_f c_f), Ud, Ud, Ud, Ud, Ud, Ud, Ud] Try.func47 rfl Try.ntmps47 rfl ?_
  refine wp_seq_k fun K1 hK1 => ?_
  refine wp_region_lit ?_
  refine q_is (l' := [(.slice p_xs L_xs.length q_xs), (.func (.func f_f) s_f c_f), Ud, Ud, (Bo false), Ud, Ud, Ud, Ud]) rfl rfl (does_assign (u := (Bo false)) (ev rfl)) rfl ?_
  refine wpList_nil (hK1 _ _ ?_)
  refine wp_seq_k fun K2 hK2 => ?_
  refine wp_region_lit ?_
  refine q_is (l' := [(.slice p_xs L_xs.length q_xs), (.func (.func f_f) s_f c_f), Ud, Ud, (Bo false), (.slice p_xs L_xs.length q_xs), Ud, Ud, Ud]) rfl rfl (does_move (u := (.slice p_xs L_xs.length q_xs)) (ev rfl)) rfl ?_
  refine q_is (l' := [(.slice p_xs L_xs.length q_xs), (.func (.func f_f) s_f c_f), Ud, Ud, (Bo false), (.slice p_xs L_xs.length q_xs), (.func (.func f_f) s_f c_f), Ud, Ud]) rfl rfl (does_move (u := (.func (.func f_f) s_f c_f)) (ev rfl)) rfl ?_
  refine seqd rfl rfl (does_call (args := #[(.slice p_xs L_xs.length q_xs), (.func (.func f_f) s_f c_f)]) cal51 (evs rfl) (c_slices_IndexFunc_float32_float32 (.slice p_xs L_xs.length q_xs) L_xs (.func (.func f_f) s_f c_f) pr_f _ hv_xs ⟨_, _, _, rfl, hcal_f, fun r u hu' => hg_f r u (Ext.gr (Ext.refl w) hu')⟩)) ?_; rintro _ w4 ⟨E3, rfl⟩
  have X5 := Ext.gr (Ext.refl w) E3
  show wpList _ _ _ _ (fr [(.slice p_xs L_xs.length q_xs), (.func (.func f_f) s_f c_f), Ud, Ud, (Bo false), (.slice p_xs L_xs.length q_xs), (.func (.func f_f) s_f c_f), (Iv (findI pr_f L_xs)), Ud]) _
  refine q_is (l' := [(.slice p_xs L_xs.length q_xs), (.func (.func f_f) s_f c_f), Ud, Ud, (Bo false), (.slice p_xs L_xs.length q_xs), (.func (.func f_f) s_f c_f), (Iv (findI pr_f L_xs)), (Bo (icmp .geq (findI pr_f L_xs) 0))]) rfl rfl (does_icmp (p := findI pr_f L_xs) (q := 0) (.inr (.inr (.inr (.inr (.inr rfl))))) (ev rfl) (ev rfl)) rfl ?_
  refine q_is (l' := [(.slice p_xs L_xs.length q_xs), (.func (.func f_f) s_f c_f), Ud, Ud, (Bo (icmp .geq (findI pr_f L_xs) 0)), (.slice p_xs L_xs.length q_xs), (.func (.func f_f) s_f c_f), (Iv (findI pr_f L_xs)), (Bo (icmp .geq (findI pr_f L_xs) 0))]) rfl rfl (does_assign (u := (Bo (icmp .geq (findI pr_f L_xs) 0))) (ev rfl)) rfl ?_
  refine wpList_nil (hK2 _ _ ?_)
  refine wp_ret ?_
  refine ret_val (v := (Bo (icmp .geq (findI pr_f L_xs) 0))) (res_T rfl (slot rfl)) X5 ?_
  have x6 : (L_xs.any pr_f) = (icmp .geq (findI pr_f L_xs) 0) := by first | with_reducible rfl | (simp only [findI_any]; done) | (simp [findI_any]; done) | rfl
  exact (by first | rfl | rw [x6])

/- impl.IsFinite -/
theorem c_impl_IsFinite (x : Nat) (w : World) : Gives Try.prog 46 #[(Fl x)] w (fun v w' => v = (Bo (finF (cf .f32 x)))) := by
  refine enter [(Fl x), Ud, Ud, Ud, Ud, Ud, Ud] Try.func46 rfl Try.ntmps46 rfl ?_
  refine wp_seq_k fun K1 hK1 => ?_
  refine wp_region_lit ?_
  refine q_is (l' := [(Fl x), Ud, (Bo false), Ud, Ud, Ud, Ud]) rfl rfl (does_assign (u := (Bo false)) (ev rfl)) rfl ?_
  refine wpList_nil (hK1 _ _ ?_)
  refine wp_seq_k fun K2 hK2 => ?_
  refine wp_region_lit ?_
  refine q_is (l' := [(Fl x), Ud, (Bo false), (Fl x), Ud, Ud, Ud]) rfl rfl (does_move (u := (Fl x)) (ev rfl)) rfl ?_
  refine q_is (l' := [(Fl x), Ud, (Bo false), (Fl x), (Fl x), Ud, Ud]) rfl rfl (does_move (u := (Fl x)) (ev rfl)) rfl ?_
  refine seqd rfl rfl (does_float (.inr (.inl rfl)) (ev rfl) (ev rfl)) ?_; rintro _ w6 ⟨r3, rfl, h4, E5⟩
  have X7 := Ext.gr (Ext.refl w) E5
  show wpList _ _ _ _ (fr [(Fl x), Ud, (Bo false), (Fl x), (Fl x), (Fl r3), Ud]) _
  refine q_is (l' := [(Fl x), Ud, (Bo false), (Fl x), (Fl x), (Fl r3), (Bo (fcmp .eql (ford .f32 (cf .f32 r3) (cf .f32 0))))]) rfl rfl (does_fcmp (.inl rfl) (ev rfl) (ev rfl)) rfl ?_
  refine q_is (l' := [(Fl x), Ud, (Bo (fcmp .eql (ford .f32 (cf .f32 r3) (cf .f32 0)))), (Fl x), (Fl x), (Fl r3), (Bo (fcmp .eql (ford .f32 (cf .f32 r3) (cf .f32 0))))]) rfl rfl (does_assign (u := (Bo (fcmp .eql (ford .f32 (cf .f32 r3) (cf .f32 0))))) (ev rfl)) rfl ?_
  refine wpList_nil (hK2 _ _ ?_)
  refine wp_ret ?_
  refine ret_val (v := (Bo (fcmp .eql (ford .f32 (cf .f32 r3) (cf .f32 0))))) (res_T rfl (slot rfl)) X7 ?_
  have x8 : (finF (cf .f32 x)) = (fcmp .eql (ford .f32 (cf .f32 r3) (cf .f32 0))) := by first | with_reducible rfl | (simp only [finF, h4]; done) | (simp [finF, h4]; done) | rfl
  exact (by first | rfl | rw [x8])

/- impl.finite$1 -/
theorem c_impl_finite_1 (x : Nat) (w : World) : Gives Try.prog 48 #[(Fl x)] w (fun v w' => v = (Bo (!finF (cf .f32 x)))) := by
  refine enter [(Fl x), Ud, Ud, Ud, Ud, Ud] Try.func48 rfl Try.ntmps48 rfl ?_
  refine wp_seq_k fun K1 hK1 => ?_
  refine wp_region_lit ?_
  refine q_is (l' := [(Fl x), Ud, (Bo false), Ud, Ud, Ud]) rfl rfl (does_assign (u := (Bo false)) (ev rfl)) rfl ?_
  refine wpList_nil (hK1 _ _ ?_)
  refine wp_seq_k fun K2 hK2 => ?_
  refine wp_region_lit ?_
  refine q_is (l' := [(Fl x), Ud, (Bo false), (Fl x), Ud, Ud]) rfl rfl (does_move (u := (Fl x)) (ev rfl)) rfl ?_
  refine seqd rfl rfl (does_call (args := #[(Fl x)]) cal46 (evs rfl) (c_impl_IsFinite x _)) ?_; rintro _ w4 ⟨E3, rfl⟩
  have X5 := Ext.gr (Ext.refl w) E3
  show wpList _ _ _ _ (fr [(Fl x), Ud, (Bo false), (Fl x), (Bo (finF (cf .f32 x))), Ud]) _
  refine q_is (l' := [(Fl x), Ud, (Bo false), (Fl x), (Bo (finF (cf .f32 x))), (Bo (!(finF (cf .f32 x))))]) rfl rfl (does_not (ev rfl)) rfl ?_
  refine q_is (l' := [(Fl x), Ud, (Bo (!(finF (cf .f32 x)))), (Fl x), (Bo (finF (cf .f32 x))), (Bo (!(finF (cf .f32 x))))]) rfl rfl (does_assign (u := (Bo (!(finF (cf .f32 x))))) (ev rfl)) rfl ?_
  refine wpList_nil (hK2 _ _ ?_)
  refine wp_ret ?_
  refine ret_val (v := (Bo (!(finF (cf .f32 x))))) (res_T rfl (slot rfl)) X5 ?_
  have x6 : (!finF (cf .f32 x)) = (!(finF (cf .f32 x))) := by first | with_reducible rfl | (simp only []; done) | (simp []; done) | rfl
  exact (by first | rfl | rw [x6])

/- impl.finite -/
theorem c_impl_finite (xs : Value) (L_xs : List Nat) (w : World) (hv_xs : Sl RF 1 w xs L_xs) : Gives Try.prog 37 #[xs] w (fun v w' => v = (Bo (!L_xs.any (fun x => !finF x)))) := by
  have hlen_xs := Sl.len hv_xs; obtain ⟨p_xs, q_xs, rfl⟩ := Sl.shape hv_xs
  refine enter [(.slice p_xs L_xs.length q_xs), Ud, Ud, Ud, Ud, Ud] Try.func37 rfl Try.ntmps37 rfl ?_
  refine wp_seq_k fun K1 hK1 => ?_
  refine wp_region_lit ?_
  refine q_is (l' := [(.slice p_xs L_xs.length q_xs), Ud, (Bo false), Ud, Ud, Ud]) rfl rfl (does_assign (u := (Bo false)) (ev rfl)) rfl ?_
  refine wpList_nil (hK1 _ _ ?_)
  refine wp_seq_k fun K2 hK2 => ?_
  refine wp_region_lit ?_
  refine q_is (l' := [(.slice p_xs L_xs.length q_xs), Ud, (Bo false), (.slice p_xs L_xs.length q_xs), Ud, Ud]) rfl rfl (does_move (u := (.slice p_xs L_xs.length q_xs)) (ev rfl)) rfl ?_
  refine seqd rfl rfl (does_call (args := #[(.slice p_xs L_xs.length q_xs), (.func (.func 48) #[] #[])]) cal47 (evs rfl) (c_slices_ContainsFunc_float32_float32 (.slice p_xs L_xs.length q_xs) L_xs (.func (.func 48) #[] #[]) (fun x => !finF x) _ hv_xs ⟨48, #[], #[], rfl, cal48, fun r u hu' => by simpa using (c_impl_finite_1 r u)⟩)) ?_; rintro _ w4 ⟨E3, rfl⟩
  have X5 := Ext.gr (Ext.refl w) E3
  show wpList _ _ _ _ (fr [(.slice p_xs L_xs.length q_xs), Ud, (Bo false), (.slice p_xs L_xs.length q_xs), (Bo (L_xs.any (fun x => !finF x))), Ud]) _
  refine q_is (l' := [(.slice p_xs L_xs.length q_xs), Ud, (Bo false), (.slice p_xs L_xs.length q_xs), (Bo (L_xs.any (fun x => !finF x))), (Bo (!(L_xs.any (fun x => !finF x))))]) rfl rfl (does_not (ev rfl)) rfl ?_
  refine q_is (l' := [(.slice p_xs L_xs.length q_xs), Ud, (Bo (!(L_xs.any (fun x => !finF x)))), (.slice p_xs L_xs.length q_xs), (Bo (L_xs.any (fun x => !finF x))), (Bo (!(L_xs.any (fun x => !finF x))))]) rfl rfl (does_assign (u := (Bo (!(L_xs.any (fun x => !finF x))))) (ev rfl)) rfl ?_
  refine wpList_nil (hK2 _ _ ?_)
  refine wp_ret ?_
  refine ret_val (v := (Bo (!(L_xs.any (fun x => !finF x))))) (res_T rfl (slot rfl)) X5 ?_
  have x6 : (!L_xs.any (fun x => !finF x)) = (!(L_xs.any (fun x => !finF x))) := by first | with_reducible rfl | (simp only []; done) | (simp []; done) | rfl
  exact (by first | rfl | rw [x6])

/- impl.finiteVector -/
theorem c_impl_finiteVector (v : List Value) (A_v : V3) (w : World) (hv_v : RV3 w A_v v) : Gives Try.prog 21 #[(.agg v.toArray)] w (fun v w' => v = (Bo (finV A_v))) := by
  obtain ⟨r1, r3, r5, rfl, h2, h4, h6⟩ := hv_v
  refine enter [(.agg #[(Fl r1), (Fl r3), (Fl r5)]), Ud, Ud, Ud, Ud, Ud, Ud, Ud, Ud, Ud, Ud] Try.func21 rfl Try.ntmps21 rfl ?_
  refine wp_seq_k fun K7 hK7 => ?_
  refine wp_region_lit ?_
  refine seqd rfl rfl (does_box (u := (.agg #[(Fl r1), (Fl r3), (Fl r5)])) (ev rfl)) ?_; rintro _ w12 ⟨b8, rfl, hb9, hB10, E11⟩
  have g13 : w.heap.size ≤ b8 := Nat.le_trans (Below.size (Ext.refl w)) hb9
  change Blk _ _ [(Fl r1), (Fl r3), (Fl r5)] at hB10
  have X14 := Ext.gr (Ext.refl w) E11
  show wpList _ _ _ _ (fr [(.agg #[(Fl r1), (Fl r3), (Fl r5)]), (Pt b8 0), Ud, Ud, Ud, Ud, Ud, Ud, Ud, Ud, Ud]) _
  refine q_is (l' := [(.agg #[(Fl r1), (Fl r3), (Fl r5)]), (Pt b8 0), (Bo false), Ud, Ud, Ud, Ud, Ud, Ud, Ud, Ud]) rfl rfl (does_assign (u := (Bo false)) (ev rfl)) rfl ?_
  refine wpList_nil (hK7 _ _ ?_)
  refine wp_seq_k fun K15 hK15 => ?_
  refine wp_region_lit ?_
  refine q_is (l' := [(.agg #[(Fl r1), (Fl r3), (Fl r5)]), (Pt b8 0), (Bo false), (Pt b8 0), Ud, Ud, Ud, Ud, Ud, Ud, Ud]) rfl rfl (does_fieldAddr (ev rfl) fa31_0) rfl ?_
  refine q_is (l' := [(.agg #[(Fl r1), (Fl r3), (Fl r5)]), (Pt b8 0), (Bo false), (Pt b8 0), (Fl r1), Ud, Ud, Ud, Ud, Ud, Ud]) rfl rfl (does_load (u := (Fl r1)) (ev rfl) Try.isAgg22 (Cells.at (Blk.cells hB10) 0 rfl)) rfl ?_
  refine q_is (l' := [(.agg #[(Fl r1), (Fl r3), (Fl r5)]), (Pt b8 0), (Bo false), (Pt b8 0), (Fl r1), (Pt b8 1), Ud, Ud, Ud, Ud, Ud]) rfl rfl (does_fieldAddr (ev rfl) fa31_1) rfl ?_
  refine q_is (l' := [(.agg #[(Fl r1), (Fl r3), (Fl r5)]), (Pt b8 0), (Bo false), (Pt b8 0), (Fl r1), (Pt b8 1), (Fl r3), Ud, Ud, Ud, Ud]) rfl rfl (does_load (u := (Fl r3)) (ev rfl) Try.isAgg22 (Cells.at (Blk.cells hB10) 1 rfl)) rfl ?_
  refine q_is (l' := [(.agg #[(Fl r1), (Fl r3), (Fl r5)]), (Pt b8 0), (Bo false), (Pt b8 0), (Fl r1), (Pt b8 1), (Fl r3), (Pt b8 2), Ud, Ud, Ud]) rfl rfl (does_fieldAddr (ev rfl) fa31_2) rfl ?_
  refine q_is (l' := [(.agg #[(Fl r1), (Fl r3), (Fl r5)]), (Pt b8 0), (Bo false), (Pt b8 0), (Fl r1), (Pt b8 1), (Fl r3), (Pt b8 2), (Fl r5), Ud, Ud]) rfl rfl (does_load (u := (Fl r5)) (ev rfl) Try.isAgg22 (Cells.at (Blk.cells hB10) 2 rfl)) rfl ?_
  refine seqd rfl rfl (does_buildSlice (e := 22) (parts' := [(0, (Fl r1)), (1, (Fl r3)), (2, (Fl r5))]) (cells := [(Fl r1), (Fl r3), (Fl r5)]) (evp rfl) (fun _ => by kernel_rfl)) ?_; rintro _ w20 ⟨b16, rfl, hb17, hB18, E19⟩
  have n21 : b8 < b16 := Nat.lt_of_lt_of_le (Blk.lt hB10) hb17
  have g22 : w.heap.size ≤ b16 := Nat.le_trans (Below.size X14) hb17
  have X23 := Ext.gr X14 E19
  show wpList _ _ _ _ (fr [(.agg #[(Fl r1), (Fl r3), (Fl r5)]), (Pt b8 0), (Bo false), (Pt b8 0), (Fl r1), (Pt b8 1), (Fl r3), (Pt b8 2), (Fl r5), (.slice (some ⟨b16, 0, none⟩) 3 3), Ud]) _
  refine seqd rfl rfl (does_call (args := #[(.slice (some ⟨b16, 0, none⟩) 3 3)]) cal37 (evs rfl) (c_impl_finite (.slice (some ⟨b16, 0, none⟩) 3 3) [(cf .f32 r1), (cf .f32 r3), (cf .f32 r5)] _ (Sl_lit3 hB18 ⟨_, rfl, rfl⟩ ⟨_, rfl, rfl⟩ ⟨_, rfl, rfl⟩))) ?_; rintro _ w25 ⟨E24, rfl⟩
  have X26 := Ext.gr X23 E24
  show wpList _ _ _ _ (fr [(.agg #[(Fl r1), (Fl r3), (Fl r5)]), (Pt b8 0), (Bo false), (Pt b8 0), (Fl r1), (Pt b8 1), (Fl r3), (Pt b8 2), (Fl r5), (.slice (some ⟨b16, 0, none⟩) 3 3), (Bo (!([(cf .f32 r1), (cf .f32 r3), (cf .f32 r5)]).any (fun x => !finF x)))]) _
  refine q_is (l' := [(.agg #[(Fl r1), (Fl r3), (Fl r5)]), (Pt b8 0), (Bo (!([(cf .f32 r1), (cf .f32 r3), (cf .f32 r5)]).any (fun x => !finF x))), (Pt b8 0), (Fl r1), (Pt b8 1), (Fl r3), (Pt b8 2), (Fl r5), (.slice (some ⟨b16, 0, none⟩) 3 3), (Bo (!([(cf .f32 r1), (cf .f32 r3), (cf .f32 r5)]).any (fun x => !finF x)))]) rfl rfl (does_assign (u := (Bo (!([(cf .f32 r1), (cf .f32 r3), (cf .f32 r5)]).any (fun x => !finF x)))) (ev rfl)) rfl ?_
  refine wpList_nil (hK15 _ _ ?_)
  refine wp_ret ?_
  refine ret_val (v := (Bo (!([(cf .f32 r1), (cf .f32 r3), (cf .f32 r5)]).any (fun x => !finF x)))) (res_T rfl (slot rfl)) X26 ?_
  have x27 : (finV A_v) = (!([(cf .f32 r1), (cf .f32 r3), (cf .f32 r5)]).any (fun x => !finF x)) := by first | with_reducible rfl | (simp only [finV, any3_finF, h2, h4, h6]; done) | (simp [finV, any3_finF, h2, h4, h6]; done) | rfl
  exact (by first | rfl | rw [x27])

/- impl.stepOk -/
theorem c_impl_stepOk (x : Nat) (w : World) : Gives Try.prog 34 #[(Fl x)] w (fun v w' => v = (Bo (finF (cf .f32 x) && posF (cf .f32 x)))) := by
  refine enter [(Fl x), Ud, Ud, Ud, Ud, Ud, Ud, Ud, Ud] Try.func34 rfl Try.ntmps34 rfl ?_
  refine wp_seq_k fun K1 hK1 => ?_
  refine wp_region_lit ?_
  refine q_is (l' := [(Fl x), Ud, (Bo false), Ud, Ud, Ud, Ud, Ud, Ud]) rfl rfl (does_assign (u := (Bo false)) (ev rfl)) rfl ?_
  refine wpList_nil (hK1 _ _ ?_)
  refine wp_seq_k fun K2 hK2 => ?_
  obtain ⟨β1, hβ1⟩ : ∃ b : Bool, b = (fcmp .gtr (ford .f32 (cf .f32 x) (cf .f32 0))) := ⟨_, rfl⟩
  refine region_text (
    [Fact.pure [] (fun v => v = (Fl x)),
    Fact.pure [3] (fun v => v = (Bo (finF (cf .f32 x)))),
    Fact.pure [4] (fun v => v = (Bo (finF (cf .f32 x)))),
    Fact.pure [5] (fun v => (finF (cf .f32 x)) = true → v = (Fl x)),
    Fact.pure [6, 5] (fun v => (finF (cf .f32 x)) = true → v = (Bo β1)),
    Fact.pure [5, 7] (fun v => v = (Bo ((finF (cf .f32 x)) && β1)))]) (by simp [Fact.pure, Fact.mem]) ?_
  refine RW_d (fun v3 => [(Fl x), Ud, (Bo false), v3, Ud, Ud, Ud, Ud, Ud]) rfl (fun _ => rfl) (fun u hu hF => ?_) (fun v3 => ?_)
  · clear hF
    refine doesG_un rfl ?_
    refine (does_move (u := (Fl x)) (ev rfl)).mono ?_; rintro _ _ ⟨rfl, rfl⟩
    exact ⟨rfl, Ext.refl _⟩
  refine RW_d (fun v4 => [(Fl x), Ud, (Bo false), v3, v4, Ud, Ud, Ud, Ud]) rfl (fun _ => rfl) (fun u hu hF => ?_) (fun v4 => ?_)
  · have h3_ : v3 = (Fl x) := hF.1
    clear hF
    refine doesG_un rfl ?_
    obtain rfl := h3_
    refine (does_call (args := #[(Fl x)]) cal46 (evs rfl) (c_impl_IsFinite x _)).mono ?_; rintro v u' ⟨hx, hv⟩
    exact ⟨hv, hx⟩
  refine RW_d (fun v5 => [(Fl x), Ud, (Bo false), v3, v4, v5, Ud, Ud, Ud]) rfl (fun _ => rfl) (fun u hu hF => ?_) (fun v5 => ?_)
  · have h4_ : v4 = (Bo (finF (cf .f32 x))) := hF.1
    clear hF
    refine doesG_un rfl ?_
    obtain rfl := h4_
    refine (does_move (u := (Bo (finF (cf .f32 x)))) (ev rfl)).mono ?_; rintro _ _ ⟨rfl, rfl⟩
    exact ⟨rfl, Ext.refl _⟩
  refine RW_d (fun v6 => [(Fl x), Ud, (Bo false), v3, v4, v5, v6, Ud, Ud]) rfl (fun _ => rfl) (fun u hu hF => ?_) (fun v6 => ?_)
  · have h5_ : v5 = (Bo (finF (cf .f32 x))) := hF.1
    clear hF
    obtain rfl := h5_
    refine doesG_g (b := (finF (cf .f32 x))) rfl (yld rfl rfl) (fun hg1 => ?_) (fun hc => ⟨fun hg1 => absurd hg1 hc, Ext.refl _⟩)
    refine (does_move (u := (Fl x)) (ev rfl)).mono ?_; rintro _ _ ⟨rfl, rfl⟩
    exact ⟨fun _ => rfl, Ext.refl _⟩
  refine RW_d (fun v7 => [(Fl x), Ud, (Bo false), v3, v4, v5, v6, v7, Ud]) rfl (fun _ => rfl) (fun u hu hF => ?_) (fun v7 => ?_)
  · have h6_ : (finF (cf .f32 x)) = true → v6 = (Fl x) := hF.1
    have h5_ : v5 = (Bo (finF (cf .f32 x))) := hF.2.1
    clear hF
    obtain rfl := h5_
    refine doesG_g (b := (finF (cf .f32 x))) rfl (yld rfl rfl) (fun hg1 => ?_) (fun hc => ⟨fun hg1 => absurd hg1 hc, Ext.refl _⟩)
    obtain rfl := h6_ hg1
    refine (does_fcmp (.inr (.inr (.inr (.inr (.inl rfl))))) (ev rfl) (ev rfl)).mono ?_; rintro _ _ ⟨rfl, rfl⟩
    exact ⟨fun _ => (by first | rfl | (show _ = _; simp only [hβ1])), Ext.refl _⟩
  refine RW_d (fun v8 => [(Fl x), Ud, (Bo false), v3, v4, v5, v6, v7, v8]) rfl (fun _ => rfl) (fun u hu hF => ?_) (fun v8 => ?_)
  · have h5_ : v5 = (Bo (finF (cf .f32 x))) := hF.1
    have h7_ : (finF (cf .f32 x)) = true → v7 = (Bo β1) := hF.2.1
    clear hF
    refine doesG_un rfl ?_
    skip
    obtain rfl := h5_
    refine (does_pick (b := (finF (cf .f32 x))) (ev rfl) (ev rfl) (ev rfl)).mono ?_; rintro _ _ ⟨rfl, rfl⟩; refine ⟨?_, Ext.refl _⟩; skip
    cases hbb : (finF (cf .f32 x)) <;> simp [hbb] at h7_ ⊢
    all_goals (first | rfl | (subst h7_; rfl) | simp_all)
  refine RW_fin ?_; intro w9 E10 hP11
  obtain ⟨⟨⟨⟨⟨⟨-, -⟩, -⟩, -⟩, -⟩, -⟩, q12⟩ := hP11
  have X13 := Ext.gr (Ext.refl w) E10
  have q12 : v8 = (Bo ((finF (cf .f32 x)) && β1)) := q12
  obtain rfl := q12
  show wpList _ _ _ _ (fr [(Fl x), Ud, (Bo false), v3, v4, v5, v6, v7, (Bo ((finF (cf .f32 x)) && β1))]) _
  refine q_is (l' := [(Fl x), Ud, (Bo ((finF (cf .f32 x)) && β1)), v3, v4, v5, v6, v7, (Bo ((finF (cf .f32 x)) && β1))]) rfl rfl (does_assign (u := (Bo ((finF (cf .f32 x)) && β1))) (ev rfl)) rfl ?_
  refine wpList_nil (hK2 _ _ ?_)
  refine wp_ret ?_
  refine ret_val (v := (Bo ((finF (cf .f32 x)) && β1))) (res_T rfl (slot rfl)) X13 ?_
  have x14 : (finF (cf .f32 x) && posF (cf .f32 x)) = ((finF (cf .f32 x)) && β1) := by first | with_reducible rfl | (simp only [posF, hβ1]; done) | (simp [posF, hβ1]; done) | rfl
  exact (by first | rfl | rw [x14])

/- (*impl.Grid).counts -/
theorem c_impl_Grid_counts (g_b : Nat) (g_o : Nat) (g : List Value) (A_g : GridT) (w : World) (hc_g : Cells w g_b g_o g) (hv_g : RGridT w A_g g) : Gives Try.prog 35 #[(Pt g_b g_o)] w (fun v w' => v = (.agg #[(Iv A_g.x), (Iv A_g.y), (Iv A_g.z)])) := by
  obtain ⟨r1, r3, r5, r7, y9, rfl, h2, h4, h6, h8, h10⟩ := hv_g
  have hs13 := h10; have hs13l := Sl.len h10; obtain ⟨p11, q12, rfl⟩ := Sl.shape h10
  refine enter [(Pt g_b g_o), Ud, Ud, Ud, Ud, Ud, Ud, Ud, Ud, Ud, Ud, Ud, Ud, Ud, Ud, Ud] Try.func35 rfl Try.ntmps35 rfl ?_
  refine wp_seq_k fun K14 hK14 => ?_
  refine wp_region_lit ?_
  refine seqd rfl rfl (does_alloc z64) ?_; rintro _ w19 ⟨b15, rfl, hb16, hB17, E18⟩
  have n20 : g_b < b15 := Nat.lt_of_lt_of_le (cell_lt (Cells.at hc_g 0 rfl)) hb16
  have g21 : w.heap.size ≤ b15 := Nat.le_trans (Below.size (Ext.refl w)) hb16
  change Blk _ _ [(Iv 0), (Iv 0), (Iv 0)] at hB17
  have X22 := Ext.gr (Ext.refl w) E18
  show wpList _ _ _ _ (fr [(Pt g_b g_o), Ud, (Pt b15 0), Ud, Ud, Ud, Ud, Ud, Ud, Ud, Ud, Ud, Ud, Ud, Ud, Ud]) _
  refine wpList_nil (hK14 _ _ ?_)
  refine wp_seq_k fun K23 hK23 => ?_
  refine region_draw (
    [Fact.pure [] (fun v => v = (Pt g_b g_o)),
    Fact.pure [3] (fun v => v = (Pt g_b g_o)),
    Fact.pure [4] (fun v => v = (Pt g_b (g_o + 4))),
    Fact.pure [5] (fun v => v = (Iv A_g.x)),
    Fact.pure [] (fun v => v = (Pt g_b g_o)),
    Fact.pure [7] (fun v => v = (Pt g_b g_o)),
    Fact.pure [8] (fun v => v = (Pt g_b (g_o + 5))),
    Fact.pure [9] (fun v => v = (Iv A_g.y)),
    Fact.pure [] (fun v => v = (Pt g_b g_o)),
    Fact.pure [11] (fun v => v = (Pt g_b g_o)),
    Fact.pure [12] (fun v => v = (Pt g_b (g_o + 6))),
    Fact.pure [13] (fun v => v = (Iv A_g.z)),
    Fact.pure [6, 10, 14] (fun v => v = (.agg #[(Iv A_g.x), (Iv A_g.y), (Iv A_g.z)]))]) mixed (by kernel_rfl) (by intro _ _ d _ _ h; cases d <;> exact h) ?_
  obtain ⟨w24, hw26⟩ : ∃ w', w' = World.drew w19 := ⟨_, rfl⟩; rw [← hw26]; have E25 : Ext w19 w24 := by rw [hw26]; exact Ext.draw _
  clear hw26
  have X27 := Ext.gr X22 E25
  refine RW_d (fun v28 => [(Pt g_b g_o), Ud, (Pt b15 0), v28, Ud, Ud, Ud, Ud, Ud, Ud, Ud, Ud, Ud, Ud, Ud, Ud]) rfl (fun _ => rfl) (fun u hu hF => ?_) (fun v28 => ?_)
  · clear hF
    refine doesG_un rfl ?_
    refine (does_move (u := (Pt g_b g_o)) (ev rfl)).mono ?_; rintro _ _ ⟨rfl, rfl⟩
    exact ⟨rfl, Ext.refl _⟩
  refine RW_d (fun v29 => [(Pt g_b g_o), Ud, (Pt b15 0), v28, v29, Ud, Ud, Ud, Ud, Ud, Ud, Ud, Ud, Ud, Ud, Ud]) rfl (fun _ => rfl) (fun u hu hF => ?_) (fun v29 => ?_)
  · have h3_ : v28 = (Pt g_b g_o) := hF.1
    clear hF
    refine doesG_un rfl ?_
    obtain rfl := h3_
    refine (does_nilCheck (ev rfl)).mono ?_; rintro _ _ ⟨rfl, rfl⟩
    exact ⟨rfl, Ext.refl _⟩
  refine RW_d (fun v30 => [(Pt g_b g_o), Ud, (Pt b15 0), v28, v29, v30, Ud, Ud, Ud, Ud, Ud, Ud, Ud, Ud, Ud, Ud]) rfl (fun _ => rfl) (fun u hu hF => ?_) (fun v30 => ?_)
  · have h4_ : v29 = (Pt g_b g_o) := hF.1
    clear hF
    refine doesG_un rfl ?_
    obtain rfl := h4_
    refine (does_fieldAddr (ev rfl) fa33_2).mono ?_; rintro _ _ ⟨rfl, rfl⟩
    exact ⟨rfl, Ext.refl _⟩
  refine RW_d (fun v31 => [(Pt g_b g_o), Ud, (Pt b15 0), v28, v29, v30, v31, Ud, Ud, Ud, Ud, Ud, Ud, Ud, Ud, Ud]) rfl (fun _ => rfl) (fun u hu hF => ?_) (fun v31 => ?_)
  · have h5_ : v30 = (Pt g_b (g_o + 4)) := hF.1
    clear hF
    refine doesG_un rfl ?_
    obtain rfl := h5_
    refine (does_load (u := (Iv A_g.x)) (ev rfl) Try.isAgg2 (Cells.at ((hc_g.ext (Ext.gr X22 E25)).ext hu) 4 rfl)).mono ?_; rintro _ _ ⟨rfl, rfl⟩
    exact ⟨rfl, Ext.refl _⟩
  refine RW_d (fun v32 => [(Pt g_b g_o), Ud, (Pt b15 0), v28, v29, v30, v31, v32, Ud, Ud, Ud, Ud, Ud, Ud, Ud, Ud]) rfl (fun _ => rfl) (fun u hu hF => ?_) (fun v32 => ?_)
  · clear hF
    refine doesG_un rfl ?_
    refine (does_move (u := (Pt g_b g_o)) (ev rfl)).mono ?_; rintro _ _ ⟨rfl, rfl⟩
    exact ⟨rfl, Ext.refl _⟩
  refine RW_d (fun v33 => [(Pt g_b g_o), Ud, (Pt b15 0), v28, v29, v30, v31, v32, v33, Ud, Ud, Ud, Ud, Ud, Ud, Ud]) rfl (fun _ => rfl) (fun u hu hF => ?_) (fun v33 => ?_)
  · have h7_ : v32 = (Pt g_b g_o) := hF.1
    clear hF
    refine doesG_un rfl ?_
    obtain rfl := h7_
    refine (does_nilCheck (ev rfl)).mono ?_; rintro _ _ ⟨rfl, rfl⟩
    exact ⟨rfl, Ext.refl _⟩
  refine RW_d (fun v34 => [(Pt g_b g_o), Ud, (Pt b15 0), v28, v29, v30, v31, v32, v33, v34, Ud, Ud, Ud, Ud, Ud, Ud]) rfl (fun _ => rfl) (fun u hu hF => ?_) (fun v34 => ?_)
  · have h8_ : v33 = (Pt g_b g_o) := hF.1
    clear hF
    refine doesG_un rfl ?_
    obtain rfl := h8_
    refine (does_fieldAddr (ev rfl) fa33_3).mono ?_; rintro _ _ ⟨rfl, rfl⟩
    exact ⟨rfl, Ext.refl _⟩
  refine RW_d (fun v35 => [(Pt g_b g_o), Ud, (Pt b15 0), v28, v29, v30, v31, v32, v33, v34, v35, Ud, Ud, Ud, Ud, Ud]) rfl (fun _ => rfl) (fun u hu hF => ?_) (fun v35 => ?_)
  · have h9_ : v34 = (Pt g_b (g_o + 5)) := hF.1
    clear hF
    refine doesG_un rfl ?_
    obtain rfl := h9_
    refine (does_load (u := (Iv A_g.y)) (ev rfl) Try.isAgg2 (Cells.at ((hc_g.ext (Ext.gr X22 E25)).ext hu) 5 rfl)).mono ?_; rintro _ _ ⟨rfl, rfl⟩
    exact ⟨rfl, Ext.refl _⟩
  refine RW_d (fun v36 => [(Pt g_b g_o), Ud, (Pt b15 0), v28, v29, v30, v31, v32, v33, v34, v35, v36, Ud, Ud, Ud, Ud]) rfl (fun _ => rfl) (fun u hu hF => ?_) (fun v36 => ?_)
  · clear hF
    refine doesG_un rfl ?_
    refine (does_move (u := (Pt g_b g_o)) (ev rfl)).mono ?_; rintro _ _ ⟨rfl, rfl⟩
    exact ⟨rfl, Ext.refl _⟩
  refine RW_d (fun v37 => [(Pt g_b g_o), Ud, (Pt b15 0), v28, v29, v30, v31, v32, v33, v34, v35, v36, v37, Ud, Ud, Ud]) rfl (fun _ => rfl) (fun u hu hF => ?_) (fun v37 => ?_)
  · have h11_ : v36 = (Pt g_b g_o) := hF.1
    clear hF
    refine doesG_un rfl ?_
    obtain rfl := h11_
    refine (does_nilCheck (ev rfl)).mono ?_; rintro _ _ ⟨rfl, rfl⟩
    exact ⟨rfl, Ext.refl _⟩
  refine RW_d (fun v38 => [(Pt g_b g_o), Ud, (Pt b15 0), v28, v29, v30, v31, v32, v33, v34, v35, v36, v37, v38, Ud, Ud]) rfl (fun _ => rfl) (fun u hu hF => ?_) (fun v38 => ?_)
  · have h12_ : v37 = (Pt g_b g_o) := hF.1
    clear hF
    refine doesG_un rfl ?_
    obtain rfl := h12_
    refine (does_fieldAddr (ev rfl) fa33_4).mono ?_; rintro _ _ ⟨rfl, rfl⟩
    exact ⟨rfl, Ext.refl _⟩
  refine RW_d (fun v39 => [(Pt g_b g_o), Ud, (Pt b15 0), v28, v29, v30, v31, v32, v33, v34, v35, v36, v37, v38, v39, Ud]) rfl (fun _ => rfl) (fun u hu hF => ?_) (fun v39 => ?_)
  · have h13_ : v38 = (Pt g_b (g_o + 6)) := hF.1
    clear hF
    refine doesG_un rfl ?_
    obtain rfl := h13_
    refine (does_load (u := (Iv A_g.z)) (ev rfl) Try.isAgg2 (Cells.at ((hc_g.ext (Ext.gr X22 E25)).ext hu) 6 rfl)).mono ?_; rintro _ _ ⟨rfl, rfl⟩
    exact ⟨rfl, Ext.refl _⟩
  refine RW_d (fun v40 => [(Pt g_b g_o), Ud, (Pt b15 0), v28, v29, v30, v31, v32, v33, v34, v35, v36, v37, v38, v39, v40]) rfl (fun _ => rfl) (fun u hu hF => ?_) (fun v40 => ?_)
  · have h6_ : v31 = (Iv A_g.x) := hF.1
    have h10_ : v35 = (Iv A_g.y) := hF.2.1
    have h14_ : v39 = (Iv A_g.z) := hF.2.2.1
    clear hF
    refine doesG_un rfl ?_
    obtain rfl := h6_
    obtain rfl := h10_
    obtain rfl := h14_
    refine (does_build (parts' := [(0, (Iv A_g.x)), (1, (Iv A_g.y)), (2, (Iv A_g.z))]) (cells := #[(Iv A_g.x), (Iv A_g.y), (Iv A_g.z)]) (evp rfl) (by kernel_rfl)).mono ?_; rintro _ _ ⟨rfl, rfl⟩
    exact ⟨rfl, Ext.refl _⟩
  refine RW_fin ?_; intro w41 E42 hP43
  obtain ⟨⟨⟨⟨⟨⟨⟨⟨⟨⟨⟨⟨⟨-, -⟩, -⟩, -⟩, -⟩, -⟩, -⟩, -⟩, -⟩, -⟩, -⟩, -⟩, -⟩, q44⟩ := hP43
  have X45 := Ext.gr X27 E42
  have q44 : v40 = (.agg #[(Iv A_g.x), (Iv A_g.y), (Iv A_g.z)]) := q44
  obtain rfl := q44
  show wpList _ _ _ _ (fr [(Pt g_b g_o), Ud, (Pt b15 0), v28, v29, v30, v31, v32, v33, v34, v35, v36, v37, v38, v39, (.agg #[(Iv A_g.x), (Iv A_g.y), (Iv A_g.z)])]) _
  refine seqn rfl rfl (does_store (n := 3) (cs := [(Iv 0), (Iv 0), (Iv 0)]) (u := (.agg #[(Iv A_g.x), (Iv A_g.y), (Iv A_g.z)])) (ev rfl) (ev rfl) Try.sizeOf64 rfl ((hB17.ext E25).ext E42) (Nat.le_of_ble_eq_true rfl) rfl) ?_; rintro _ w48 ⟨rfl, W46, hB47⟩
  change Blk _ _ [(Iv A_g.x), (Iv A_g.y), (Iv A_g.z)] at hB47
  have X49 := Below.wr X45 W46 g21
  refine wpList_nil (hK23 _ _ ?_)
  refine wp_ret ?_
  refine ret_val (v := (.agg #[(Iv A_g.x), (Iv A_g.y), (Iv A_g.z)])) (res_C rfl (slot rfl) (run_loadAgg (cs := [(Iv A_g.x), (Iv A_g.y), (Iv A_g.z)]) Try.isAgg64 Try.sizeOf64 (Blk.cells hB47) rfl)) X49 ?_
  have x50 : (A_g.x : Int) = A_g.x := by first | with_reducible rfl | (simp only [h2, h4, h6, h8]; done) | (simp [h2, h4, h6, h8]; done) | rfl
  have x51 : (A_g.y : Int) = A_g.y := by first | with_reducible rfl | (simp only [h2, h4, h6, h8]; done) | (simp [h2, h4, h6, h8]; done) | rfl
  have x52 : (A_g.z : Int) = A_g.z := by first | with_reducible rfl | (simp only [h2, h4, h6, h8]; done) | (simp [h2, h4, h6, h8]; done) | rfl
  exact (by first | rfl | rw [x50, x51, x52] | rw [x52, x51, x50])

/- impl.in -/
theorem c_impl_in (n : Int) (low : Int) (high : Int) (w : World) : Gives Try.prog 36 #[(Iv n), (Iv low), (Iv high)] w (fun v w' => v = (Bo (inI n low high))) := by
  refine enter [(Iv n), (Iv low), (Iv high), Ud, Ud, Ud, Ud, Ud, Ud, Ud, Ud, Ud, Ud, Ud, Ud] Try.func36 rfl Try.ntmps36 rfl ?_
  refine wp_seq_k fun K1 hK1 => ?_
  refine wp_region_lit ?_
  refine q_is (l' := [(Iv n), (Iv low), (Iv high), Ud, Ud, Ud, (Bo false), Ud, Ud, Ud, Ud, Ud, Ud, Ud, Ud]) rfl rfl (does_assign (u := (Bo false)) (ev rfl)) rfl ?_
  refine wpList_nil (hK1 _ _ ?_)
  refine wp_seq_k fun K2 hK2 => ?_
  obtain ⟨β1, hβ1⟩ : ∃ b : Bool, b = ((icmp .geq n low) && (icmp .leq n high)) := ⟨_, rfl⟩
  refine region_text (
    [Fact.pure [] (fun v => v = (Iv n)),
    Fact.pure [] (fun v => v = (Iv low)),
    Fact.pure [7, 8] (fun v => v = (Bo (icmp .geq n low))),
    Fact.pure [9] (fun v => v = (Bo (icmp .geq n low))),
    Fact.pure [10] (fun v => (icmp .geq n low) = true → v = (Iv n)),
    Fact.pure [10] (fun v => (icmp .geq n low) = true → v = (Iv high)),
    Fact.pure [11, 12, 10] (fun v => (icmp .geq n low) = true → v = (Bo (icmp .leq n high))),
    Fact.pure [10, 13] (fun v => v = (Bo β1))]) (by simp [Fact.pure, Fact.mem]) ?_
  refine RW_d (fun v3 => [(Iv n), (Iv low), (Iv high), Ud, Ud, Ud, (Bo false), v3, Ud, Ud, Ud, Ud, Ud, Ud, Ud]) rfl (fun _ => rfl) (fun u hu hF => ?_) (fun v3 => ?_)
  · clear hF
    refine doesG_un rfl ?_
    refine (does_move (u := (Iv n)) (ev rfl)).mono ?_; rintro _ _ ⟨rfl, rfl⟩
    exact ⟨rfl, Ext.refl _⟩
  refine RW_d (fun v4 => [(Iv n), (Iv low), (Iv high), Ud, Ud, Ud, (Bo false), v3, v4, Ud, Ud, Ud, Ud, Ud, Ud]) rfl (fun _ => rfl) (fun u hu hF => ?_) (fun v4 => ?_)
  · clear hF
    refine doesG_un rfl ?_
    refine (does_move (u := (Iv low)) (ev rfl)).mono ?_; rintro _ _ ⟨rfl, rfl⟩
    exact ⟨rfl, Ext.refl _⟩
  refine RW_d (fun v5 => [(Iv n), (Iv low), (Iv high), Ud, Ud, Ud, (Bo false), v3, v4, v5, Ud, Ud, Ud, Ud, Ud]) rfl (fun _ => rfl) (fun u hu hF => ?_) (fun v5 => ?_)
  · have h7_ : v3 = (Iv n) := hF.1
    have h8_ : v4 = (Iv low) := hF.2.1
    clear hF
    refine doesG_un rfl ?_
    obtain rfl := h7_
    obtain rfl := h8_
    refine (does_icmp (p := n) (q := low) (.inr (.inr (.inr (.inr (.inr rfl))))) (ev rfl) (ev rfl)).mono ?_; rintro _ _ ⟨rfl, rfl⟩
    exact ⟨rfl, Ext.refl _⟩
  refine RW_d (fun v6 => [(Iv n), (Iv low), (Iv high), Ud, Ud, Ud, (Bo false), v3, v4, v5, v6, Ud, Ud, Ud, Ud]) rfl (fun _ => rfl) (fun u hu hF => ?_) (fun v6 => ?_)
  · have h9_ : v5 = (Bo (icmp .geq n low)) := hF.1
    clear hF
    refine doesG_un rfl ?_
    obtain rfl := h9_
    refine (does_move (u := (Bo (icmp .geq n low))) (ev rfl)).mono ?_; rintro _ _ ⟨rfl, rfl⟩
    exact ⟨rfl, Ext.refl _⟩
  refine RW_d (fun v7 => [(Iv n), (Iv low), (Iv high), Ud, Ud, Ud, (Bo false), v3, v4, v5, v6, v7, Ud, Ud, Ud]) rfl (fun _ => rfl) (fun u hu hF => ?_) (fun v7 => ?_)
  · have h10_ : v6 = (Bo (icmp .geq n low)) := hF.1
    clear hF
    obtain rfl := h10_
    refine doesG_g (b := (icmp .geq n low)) rfl (yld rfl rfl) (fun hg1 => ?_) (fun hc => ⟨fun hg1 => absurd hg1 hc, Ext.refl _⟩)
    refine (does_move (u := (Iv n)) (ev rfl)).mono ?_; rintro _ _ ⟨rfl, rfl⟩
    exact ⟨fun _ => rfl, Ext.refl _⟩
  refine RW_d (fun v8 => [(Iv n), (Iv low), (Iv high), Ud, Ud, Ud, (Bo false), v3, v4, v5, v6, v7, v8, Ud, Ud]) rfl (fun _ => rfl) (fun u hu hF => ?_) (fun v8 => ?_)
  · have h10_ : v6 = (Bo (icmp .geq n low)) := hF.1
    clear hF
    obtain rfl := h10_
    refine doesG_g (b := (icmp .geq n low)) rfl (yld rfl rfl) (fun hg1 => ?_) (fun hc => ⟨fun hg1 => absurd hg1 hc, Ext.refl _⟩)
    refine (does_move (u := (Iv high)) (ev rfl)).mono ?_; rintro _ _ ⟨rfl, rfl⟩
    exact ⟨fun _ => rfl, Ext.refl _⟩
  refine RW_d (fun v9 => [(Iv n), (Iv low), (Iv high), Ud, Ud, Ud, (Bo false), v3, v4, v5, v6, v7, v8, v9, Ud]) rfl (fun _ => rfl) (fun u hu hF => ?_) (fun v9 => ?_)
  · have h11_ : (icmp .geq n low) = true → v7 = (Iv n) := hF.1
    have h12_ : (icmp .geq n low) = true → v8 = (Iv high) := hF.2.1
    have h10_ : v6 = (Bo (icmp .geq n low)) := hF.2.2.1
    clear hF
    obtain rfl := h10_
    refine doesG_g (b := (icmp .geq n low)) rfl (yld rfl rfl) (fun hg1 => ?_) (fun hc => ⟨fun hg1 => absurd hg1 hc, Ext.refl _⟩)
    obtain rfl := h11_ hg1
    obtain rfl := h12_ hg1
    refine (does_icmp (p := n) (q := high) (.inr (.inr (.inr (.inl rfl)))) (ev rfl) (ev rfl)).mono ?_; rintro _ _ ⟨rfl, rfl⟩
    exact ⟨fun _ => rfl, Ext.refl _⟩
  refine RW_d (fun v10 => [(Iv n), (Iv low), (Iv high), Ud, Ud, Ud, (Bo false), v3, v4, v5, v6, v7, v8, v9, v10]) rfl (fun _ => rfl) (fun u hu hF => ?_) (fun v10 => ?_)
  · have h10_ : v6 = (Bo (icmp .geq n low)) := hF.1
    have h13_ : (icmp .geq n low) = true → v9 = (Bo (icmp .leq n high)) := hF.2.1
    clear hF
    refine doesG_un rfl ?_
    skip
    obtain rfl := h10_
    refine (does_pick (b := (icmp .geq n low)) (ev rfl) (ev rfl) (ev rfl)).mono ?_; rintro _ _ ⟨rfl, rfl⟩; refine ⟨?_, Ext.refl _⟩; rw [hβ1]; skip
    cases hbb : (icmp .geq n low) <;> simp [hbb] at h13_ ⊢
    all_goals (first | rfl | (subst h13_; rfl) | simp_all)
  refine RW_fin ?_; intro w11 E12 hP13
  obtain ⟨⟨⟨⟨⟨⟨⟨⟨-, -⟩, -⟩, -⟩, -⟩, -⟩, -⟩, -⟩, q14⟩ := hP13
  have X15 := Ext.gr (Ext.refl w) E12
  have q14 : v10 = (Bo β1) := q14
  obtain rfl := q14
  show wpList _ _ _ _ (fr [(Iv n), (Iv low), (Iv high), Ud, Ud, Ud, (Bo false), v3, v4, v5, v6, v7, v8, v9, (Bo β1)]) _
  refine q_is (l' := [(Iv n), (Iv low), (Iv high), Ud, Ud, Ud, (Bo β1), v3, v4, v5, v6, v7, v8, v9, (Bo β1)]) rfl rfl (does_assign (u := (Bo β1)) (ev rfl)) rfl ?_
  refine wpList_nil (hK2 _ _ ?_)
  refine wp_ret ?_
  refine ret_val (v := (Bo β1)) (res_T rfl (slot rfl)) X15 ?_
  have x16 : (inI n low high) = β1 := by first | with_reducible rfl | (simp only [inI, hβ1]; done) | (simp [inI, hβ1]; done) | rfl
  exact (by first | rfl | rw [x16])

/- impl.ValidGrid -/
theorem c_impl_ValidGrid (g : List Value) (A_g : GridT) (w : World) (hv_g : RGridT w A_g g) : Gives Try.prog 20 #[(.agg g.toArray)] w (fun v w' => v = (Bo (isGrid A_g))) := by
  obtain ⟨r1, r3, r5, r7, y9, rfl, h2, h4, h6, h8, h10⟩ := hv_g
  have hs13 := h10; have hs13l := Sl.len h10; obtain ⟨p11, q12, rfl⟩ := Sl.shape h10
  refine enter [(.agg #[(Fl r1), (Fl r3), (Fl r5), (Fl r7), (Iv A_g.x), (Iv A_g.y), (Iv A_g.z), (.slice p11 A_g.vals.length q12)]), Ud, Ud, Ud, Ud, Ud, Ud, Ud, Ud, Ud, Ud, Ud, Ud, Ud, Ud, Ud, Ud, Ud, Ud, Ud, Ud, Ud, Ud, Ud, Ud, Ud, Ud, Ud, Ud, Ud, Ud, Ud, Ud, Ud, Ud, Ud, Ud, Ud, Ud, Ud, Ud] Try.func20 rfl Try.ntmps20 rfl ?_
  refine wp_seq_k fun K14 hK14 => ?_
  refine wp_region_lit ?_
  refine seqd rfl rfl (does_box (u := (.agg #[(Fl r1), (Fl r3), (Fl r5), (Fl r7), (Iv A_g.x), (Iv A_g.y), (Iv A_g.z), (.slice p11 A_g.vals.length q12)])) (ev rfl)) ?_; rintro _ w19 ⟨b15, rfl, hb16, hB17, E18⟩
  have g20 : w.heap.size ≤ b15 := Nat.le_trans (Below.size (Ext.refl w)) hb16
  change Blk _ _ [(Fl r1), (Fl r3), (Fl r5), (Fl r7), (Iv A_g.x), (Iv A_g.y), (Iv A_g.z), (.slice p11 A_g.vals.length q12)] at hB17
  have X21 := Ext.gr (Ext.refl w) E18
  show wpList _ _ _ _ (fr [(.agg #[(Fl r1), (Fl r3), (Fl r5), (Fl r7), (Iv A_g.x), (Iv A_g.y), (Iv A_g.z), (.slice p11 A_g.vals.length q12)]), (Pt b15 0), Ud, Ud, Ud, Ud, Ud, Ud, Ud, Ud, Ud, Ud, Ud, Ud, Ud, Ud, Ud, Ud, Ud, Ud, Ud, Ud, Ud, Ud, Ud, Ud, Ud, Ud, Ud, Ud, Ud, Ud, Ud, Ud, Ud, Ud, Ud, Ud, Ud, Ud, Ud]) _
  refine q_is rfl rfl (does_assign (u := (Bo false)) (ev rfl)) (by dsimp only [List.set]; try rfl) ?_
  refine wpList_nil (hK14 _ _ ?_)
  refine wp_seq_k fun K22 hK22 => ?_
  refine wp_seq_k fun K23 hK23 => ?_
  obtain ⟨β1, hβ1⟩ : ∃ b : Bool, b = (finF (cf .f32 r7) && posF (cf .f32 r7)) := ⟨_, rfl⟩
  obtain ⟨β2, hβ2⟩ : ∃ b : Bool, b = ((!(finV A_g.low)) || (!β1)) := ⟨_, rfl⟩
  refine region_text (
    [Fact.pure [] (fun v => v = (Pt b15 0)),
    Fact.pure [6] (fun v => v = (.agg #[(Fl r1), (Fl r3), (Fl r5)])),
    Fact.pure [7] (fun v => v = (Bo (finV A_g.low))),
    Fact.pure [8] (fun v => v = (Bo (!(finV A_g.low)))),
    Fact.pure [9] (fun v => v = (Bo (!(finV A_g.low)))),
    Fact.pure [10] (fun v => (!(finV A_g.low)) = false → v = (Pt b15 3)),
    Fact.pure [11, 10] (fun v => (!(finV A_g.low)) = false → v = (Fl r7)),
    Fact.pure [12, 10] (fun v => (!(finV A_g.low)) = false → v = (Bo β1)),
    Fact.pure [13, 10] (fun v => (!(finV A_g.low)) = false → v = (Bo (!β1))),
    Fact.pure [10, 14] (fun v => v = (Bo β2))]) (by simp [Fact.pure, Fact.mem]) ?_
  refine RW_d _ rfl (fun v => by dsimp only [List.set]; try rfl) (fun u hu hF => ?_) (fun v24 => ?_)
  · clear hF
    refine doesG_un rfl ?_
    refine (does_fieldAddr (ev rfl) fa33_0).mono ?_; rintro _ _ ⟨rfl, rfl⟩
    exact ⟨rfl, Ext.refl _⟩
  refine RW_d _ rfl (fun v => by dsimp only [List.set]; try rfl) (fun u hu hF => ?_) (fun v25 => ?_)
  · have h6_ : v24 = (Pt b15 0) := hF.1
    clear hF
    refine doesG_un rfl ?_
    obtain rfl := h6_
    refine (does_loadAgg (cs := [(Fl r1), (Fl r3), (Fl r5)]) (ev rfl) Try.isAgg31 Try.sizeOf31 (Cells.sub (Blk.cells (hB17.ext hu)) 0 3) rfl).mono ?_; rintro _ _ ⟨rfl, rfl⟩
    exact ⟨rfl, Ext.refl _⟩
  refine RW_d _ rfl (fun v => by dsimp only [List.set]; try rfl) (fun u hu hF => ?_) (fun v26 => ?_)
  · have h7_ : v25 = (.agg #[(Fl r1), (Fl r3), (Fl r5)]) := hF.1
    clear hF
    refine doesG_un rfl ?_
    obtain rfl := h7_
    refine (does_call (args := #[(.agg #[(Fl r1), (Fl r3), (Fl r5)])]) cal21 (evs rfl) (c_impl_finiteVector [(Fl r1), (Fl r3), (Fl r5)] A_g.low _ ⟨r1, r3, r5, rfl, h2, h4, h6⟩)).mono ?_; rintro v u' ⟨hx, hv⟩
    exact ⟨hv, hx⟩
  refine RW_d _ rfl (fun v => by dsimp only [List.set]; try rfl) (fun u hu hF => ?_) (fun v27 => ?_)
  · have h8_ : v26 = (Bo (finV A_g.low)) := hF.1
    clear hF
    refine doesG_un rfl ?_
    obtain rfl := h8_
    refine (does_not (ev rfl)).mono ?_; rintro _ _ ⟨rfl, rfl⟩
    exact ⟨rfl, Ext.refl _⟩
  refine RW_d _ rfl (fun v => by dsimp only [List.set]; try rfl) (fun u hu hF => ?_) (fun v28 => ?_)
  · have h9_ : v27 = (Bo (!(finV A_g.low))) := hF.1
    clear hF
    refine doesG_un rfl ?_
    obtain rfl := h9_
    refine (does_move (u := (Bo (!(finV A_g.low)))) (ev rfl)).mono ?_; rintro _ _ ⟨rfl, rfl⟩
    exact ⟨rfl, Ext.refl _⟩
  refine RW_d _ rfl (fun v => by dsimp only [List.set]; try rfl) (fun u hu hF => ?_) (fun v29 => ?_)
  · have h10_ : v28 = (Bo (!(finV A_g.low))) := hF.1
    clear hF
    obtain rfl := h10_
    refine doesG_g (b := (!(finV A_g.low))) rfl (yld rfl rfl) (fun hg1 => ?_) (fun hc => ⟨fun hg1 => absurd hg1 hc, Ext.refl _⟩)
    refine (does_fieldAddr (ev rfl) fa33_1).mono ?_; rintro _ _ ⟨rfl, rfl⟩
    exact ⟨fun _ => rfl, Ext.refl _⟩
  refine RW_d _ rfl (fun v => by dsimp only [List.set]; try rfl) (fun u hu hF => ?_) (fun v30 => ?_)
  · have h11_ : (!(finV A_g.low)) = false → v29 = (Pt b15 3) := hF.1
    have h10_ : v28 = (Bo (!(finV A_g.low))) := hF.2.1
    clear hF
    obtain rfl := h10_
    refine doesG_g (b := (!(finV A_g.low))) rfl (yld rfl rfl) (fun hg1 => ?_) (fun hc => ⟨fun hg1 => absurd hg1 hc, Ext.refl _⟩)
    obtain rfl := h11_ hg1
    refine (does_load (u := (Fl r7)) (ev rfl) Try.isAgg22 (Cells.at (Blk.cells (hB17.ext hu)) 3 rfl)).mono ?_; rintro _ _ ⟨rfl, rfl⟩
    exact ⟨fun _ => rfl, Ext.refl _⟩
  refine RW_d _ rfl (fun v => by dsimp only [List.set]; try rfl) (fun u hu hF => ?_) (fun v31 => ?_)
  · have h12_ : (!(finV A_g.low)) = false → v30 = (Fl r7) := hF.1
    have h10_ : v28 = (Bo (!(finV A_g.low))) := hF.2.1
    clear hF
    obtain rfl := h10_
    refine doesG_g (b := (!(finV A_g.low))) rfl (yld rfl rfl) (fun hg1 => ?_) (fun hc => ⟨fun hg1 => absurd hg1 hc, Ext.refl _⟩)
    obtain rfl := h12_ hg1
    refine (does_call (args := #[(Fl r7)]) cal34 (evs rfl) (c_impl_stepOk r7 _)).mono ?_; rintro v u' ⟨hx, hv⟩
    exact ⟨fun _ => hv.trans (by simp only [hβ1]), hx⟩
  refine RW_d _ rfl (fun v => by dsimp only [List.set]; try rfl) (fun u hu hF => ?_) (fun v32 => ?_)
  · have h13_ : (!(finV A_g.low)) = false → v31 = (Bo β1) := hF.1
    have h10_ : v28 = (Bo (!(finV A_g.low))) := hF.2.1
    clear hF
    obtain rfl := h10_
    refine doesG_g (b := (!(finV A_g.low))) rfl (yld rfl rfl) (fun hg1 => ?_) (fun hc => ⟨fun hg1 => absurd hg1 hc, Ext.refl _⟩)
    obtain rfl := h13_ hg1
    refine (does_not (ev rfl)).mono ?_; rintro _ _ ⟨rfl, rfl⟩
    exact ⟨fun _ => rfl, Ext.refl _⟩
  refine RW_d _ rfl (fun v => by dsimp only [List.set]; try rfl) (fun u hu hF => ?_) (fun v33 => ?_)
  · have h10_ : v28 = (Bo (!(finV A_g.low))) := hF.1
    have h14_ : (!(finV A_g.low)) = false → v32 = (Bo (!β1)) := hF.2.1
    clear hF
    refine doesG_un rfl ?_
    skip
    obtain rfl := h10_
    refine (does_pick (b := (!(finV A_g.low))) (ev rfl) (ev rfl) (ev rfl)).mono ?_; rintro _ _ ⟨rfl, rfl⟩; refine ⟨?_, Ext.refl _⟩; rw [hβ2]; skip
    cases hbb : (!(finV A_g.low)) <;> simp [hbb] at h14_ ⊢
    all_goals (first | rfl | (subst h14_; rfl) | simp_all)
  refine RW_fin ?_; intro w34 E35 hP36
  obtain ⟨⟨⟨⟨⟨⟨⟨⟨⟨⟨-, -⟩, -⟩, -⟩, -⟩, -⟩, -⟩, -⟩, -⟩, -⟩, q37⟩ := hP36
  have X38 := Ext.gr X21 E35
  have q37 : v33 = (Bo β2) := q37
  obtain rfl := q37
  show wpList _ _ _ _ (fr [(.agg #[(Fl r1), (Fl r3), (Fl r5), (Fl r7), (Iv A_g.x), (Iv A_g.y), (Iv A_g.z), (.slice p11 A_g.vals.length q12)]), (Pt b15 0), (Bo false), Ud, Ud, Ud, v24, v25, v26, v27, v28, v29, v30, v31, v32, (Bo β2), Ud, Ud, Ud, Ud, Ud, Ud, Ud, Ud, Ud, Ud, Ud, Ud, Ud, Ud, Ud, Ud, Ud, Ud, Ud, Ud, Ud, Ud, Ud, Ud, Ud]) _
  refine wpList_nil (hK23 _ _ ?_)
  refine wp_cond_split (t := β2) (ev rfl) (fun c39 => ?_) (fun c39 => ?_)
  · have c39' := c39
    (try simp only [hβ1, hβ2] at c39')
    (try simp only [icmp, Bool.and_eq_true, Bool.or_eq_true, Bool.and_eq_false_iff, Bool.or_eq_false_iff, Bool.not_eq_true', Bool.not_eq_false', decide_eq_true_eq, decide_eq_false_iff_not, beq_iff_eq, bne_iff_ne, beq_eq_false_iff_ne, bne_eq_false_iff_eq] at c39')
    refine wp_seq_k fun K40 hK40 => ?_
    refine wp_region_lit ?_
    refine q_is rfl rfl (does_assign (u := (Bo false)) (ev rfl)) (by dsimp only [List.set]; try rfl) ?_
    refine wpList_nil (hK40 _ _ ?_)
    refine wp_ret ?_
    dsimp only [Exit.then, Exit.inBlock]
    refine ret_val (v := (Bo false)) (res_T rfl (slot rfl)) X38 ?_
    try simp only [h2, h4, h6, h8, hβ1, hβ2] at c39
    have x41 : (isGrid A_g) = false := by first | with_reducible rfl | (simp only [isGrid, cntOk, prod3, h2, h4, h6, h8, hβ1, hβ2, c39]; done) | (simp [isGrid, cntOk, prod3, h2, h4, h6, h8, hβ1, hβ2, c39]; done) | (revert c39; simp +contextual [isGrid, cntOk, prod3, h2, h4, h6, h8, hβ1, hβ2]; done) | (rcases c39' with hh | hh <;> simp only [hh, isGrid, cntOk, prod3, h2, h4, h6, h8, hβ1, hβ2, c39]; done) | (rcases c39' with hh | hh <;> simp_all [isGrid, cntOk, prod3]; done) | (rcases c39' with hh | hh | hh <;> simp_all [isGrid, cntOk, prod3]; done) | (rcases c39' with hh | hh | hh | hh <;> simp_all [isGrid, cntOk, prod3]; done) | (simp_all [isGrid, cntOk, prod3]; done) | rfl
    exact (by first | rfl | rw [x41])
  have c39' := c39
  (try simp only [hβ1, hβ2] at c39')
  (try simp only [icmp, Bool.and_eq_true, Bool.or_eq_true, Bool.and_eq_false_iff, Bool.or_eq_false_iff, Bool.not_eq_true', Bool.not_eq_false', decide_eq_true_eq, decide_eq_false_iff_not, beq_iff_eq, bne_iff_ne, beq_eq_false_iff_ne, bne_eq_false_iff_eq] at c39')
  refine wp_skip (hK22 _ _ ?_)
  refine wp_seq_k fun K42 hK42 => ?_
  refine wp_seq_k fun K43 hK43 => ?_
  refine wp_region_lit ?_
  refine seqd rfl rfl (does_call (args := #[(Pt b15 0)]) cal35 (evs rfl) (c_impl_Grid_counts b15 0 [(Fl r1), (Fl r3), (Fl r5), (Fl r7), (Iv A_g.x), (Iv A_g.y), (Iv A_g.z), (.slice p11 A_g.vals.length q12)] A_g _ (Blk.cells (hB17.ext E35)) ⟨r1, r3, r5, r7, (.slice p11 A_g.vals.length q12), rfl, h2, h4, h6, h8, (Sl.ext hs13 RF.mono X38)⟩)) ?_; rintro _ w45 ⟨E44, rfl⟩
  have X46 := Ext.gr X38 E44
  show wpList _ _ _ _ (fr [(.agg #[(Fl r1), (Fl r3), (Fl r5), (Fl r7), (Iv A_g.x), (Iv A_g.y), (Iv A_g.z), (.slice p11 A_g.vals.length q12)]), (Pt b15 0), (Bo false), Ud, Ud, Ud, v24, v25, v26, v27, v28, v29, v30, v31, v32, (Bo β2), (.agg #[(Iv A_g.x), (Iv A_g.y), (Iv A_g.z)]), Ud, Ud, Ud, Ud, Ud, Ud, Ud, Ud, Ud, Ud, Ud, Ud, Ud, Ud, Ud, Ud, Ud, Ud, Ud, Ud, Ud, Ud, Ud, Ud]) _
  refine q_is rfl rfl (does_move (u := (Iv 0)) (ev rfl)) (by dsimp only [List.set]; try rfl) ?_
  refine wpList_nil (hK43 _ _ ?_)
  refine wp_block ?_
  refine loop_unroll 4 ?_
  refine un_step ?_
  refine wp_seq_k fun K47 hK47 => ?_
  refine wp_region_lit ?_
  refine q_is rfl rfl (does_icmp (p := 0) (q := 3) (.inr (.inr (.inl rfl))) (ev rfl) (ev rfl)) (by dsimp only [List.set]; try rfl) ?_
  refine wpList_nil (hK47 _ _ ?_)
  refine wp_seq_k fun K48 hK48 => ?_
  refine wp_cond_true (ev rfl) ?_
  refine wp_skip (hK48 _ _ ?_)
  refine wp_seq_k fun K49 hK49 => ?_
  refine wp_block ?_
  refine wp_seq_k fun K50 hK50 => ?_
  refine wp_region_lit ?_
  refine q_is rfl rfl (does_index_run (r := (Iv A_g.x)) (ev rfl) (ev rfl) (fun w => ix64_0 _ _ _ w)) (by dsimp only [List.set]; try rfl) ?_
  refine q_is rfl rfl (does_assign (u := (Iv A_g.x)) (ev rfl)) (by dsimp only [List.set]; try rfl) ?_
  refine wpList_nil (hK50 _ _ ?_)
  refine wp_seq_k fun K51 hK51 => ?_
  refine wp_region_lit ?_
  refine q_is rfl rfl (does_move (u := (Iv A_g.x)) (ev rfl)) (by dsimp only [List.set]; try rfl) ?_
  refine seqd rfl rfl (does_call (args := #[(Iv A_g.x), (Iv 1), (Iv 16)]) cal36 (evs rfl) (c_impl_in A_g.x 1 16 _)) ?_; rintro _ w53 ⟨E52, rfl⟩
  have X54 := Ext.gr X46 E52
  show wpList _ _ _ _ (fr [(.agg #[(Fl r1), (Fl r3), (Fl r5), (Fl r7), (Iv A_g.x), (Iv A_g.y), (Iv A_g.z), (.slice p11 A_g.vals.length q12)]), (Pt b15 0), (Bo false), Ud, (Iv A_g.x), Ud, v24, v25, v26, v27, v28, v29, v30, v31, v32, (Bo β2), (.agg #[(Iv A_g.x), (Iv A_g.y), (Iv A_g.z)]), (Iv 0), (Bo true), (Iv A_g.x), (Iv A_g.x), (Bo (inI A_g.x 1 16)), Ud, Ud, Ud, Ud, Ud, Ud, Ud, Ud, Ud, Ud, Ud, Ud, Ud, Ud, Ud, Ud, Ud, Ud, Ud]) _
  refine q_is rfl rfl (does_not (ev rfl)) (by dsimp only [List.set]; try rfl) ?_
  refine wpList_nil (hK51 _ _ ?_)
  refine wp_cond_split (t := !(inI A_g.x 1 16)) (ev rfl) (fun c55 => ?_) (fun c55 => ?_)
  · rw [Bool.not_eq_true'] at c55
    have c55' := c55
    (try simp only [hβ1, hβ2] at c55')
    (try simp only [icmp, Bool.and_eq_true, Bool.or_eq_true, Bool.and_eq_false_iff, Bool.or_eq_false_iff, Bool.not_eq_true', Bool.not_eq_false', decide_eq_true_eq, decide_eq_false_iff_not, beq_iff_eq, bne_iff_ne, beq_eq_false_iff_ne, bne_eq_false_iff_eq] at c55')
    refine wp_seq_k fun K56 hK56 => ?_
    refine wp_region_lit ?_
    refine q_is rfl rfl (does_assign (u := (Bo false)) (ev rfl)) (by dsimp only [List.set]; try rfl) ?_
    refine wpList_nil (hK56 _ _ ?_)
    refine wp_ret ?_
    dsimp only [Exit.then, Exit.inBlock]
    refine ret_val (v := (Bo false)) (res_T rfl (slot rfl)) X54 ?_
    try simp only [h2, h4, h6, h8, hβ1, hβ2] at c39 c55
    have x57 : (isGrid A_g) = false := by first | with_reducible rfl | (simp only [isGrid, cntOk, prod3, h2, h4, h6, h8, hβ1, hβ2, c39, c55]; done) | (simp [isGrid, cntOk, prod3, h2, h4, h6, h8, hβ1, hβ2, c39, c55]; done) | (revert c39 c55; simp +contextual [isGrid, cntOk, prod3, h2, h4, h6, h8, hβ1, hβ2]; done) | (rcases c39' with hh | hh <;> simp only [hh, isGrid, cntOk, prod3, h2, h4, h6, h8, hβ1, hβ2, c39, c55]; done) | (rcases c55' with hh | hh <;> simp only [hh, isGrid, cntOk, prod3, h2, h4, h6, h8, hβ1, hβ2, c39, c55]; done) | (rcases c55' with hh | hh <;> simp_all [isGrid, cntOk, prod3]; done) | (rcases c55' with hh | hh | hh <;> simp_all [isGrid, cntOk, prod3]; done) | (rcases c55' with hh | hh | hh | hh <;> simp_all [isGrid, cntOk, prod3]; done) | (simp_all [isGrid, cntOk, prod3]; done) | rfl
    exact (by first | rfl | rw [x57])
  rw [Bool.not_eq_false'] at c55
  have c55' := c55
  (try simp only [hβ1, hβ2] at c55')
  (try simp only [icmp, Bool.and_eq_true, Bool.or_eq_true, Bool.and_eq_false_iff, Bool.or_eq_false_iff, Bool.not_eq_true', Bool.not_eq_false', decide_eq_true_eq, decide_eq_false_iff_not, beq_iff_eq, bne_iff_ne, beq_eq_false_iff_ne, bne_eq_false_iff_eq] at c55')
  refine wp_skip (hK49 _ _ ?_)
  refine wp_region_lit ?_
  refine q_is rfl rfl (does_iarith (p := 0) (q := 1) (r := (1)) (ev rfl) (ev rfl) (.inl ⟨rfl, rfl⟩)) (by dsimp only [List.set]; try rfl) ?_
  refine q_is rfl rfl (does_move (u := (Iv 1)) (ev rfl)) (by dsimp only [List.set]; try rfl) ?_
  refine wpList_nil ?_
  refine un_step ?_
  refine wp_seq_k fun K58 hK58 => ?_
  refine wp_region_lit ?_
  refine q_is rfl rfl (does_icmp (p := 1) (q := 3) (.inr (.inr (.inl rfl))) (ev rfl) (ev rfl)) (by dsimp only [List.set]; try rfl) ?_
  refine wpList_nil (hK58 _ _ ?_)
  refine wp_seq_k fun K59 hK59 => ?_
  refine wp_cond_true (ev rfl) ?_
  refine wp_skip (hK59 _ _ ?_)
  refine wp_seq_k fun K60 hK60 => ?_
  refine wp_block ?_
  refine wp_seq_k fun K61 hK61 => ?_
  refine wp_region_lit ?_
  refine q_is rfl rfl (does_index_run (r := (Iv A_g.y)) (ev rfl) (ev rfl) (fun w => ix64_1 _ _ _ w)) (by dsimp only [List.set]; try rfl) ?_
  refine q_is rfl rfl (does_assign (u := (Iv A_g.y)) (ev rfl)) (by dsimp only [List.set]; try rfl) ?_
  refine wpList_nil (hK61 _ _ ?_)
  refine wp_seq_k fun K62 hK62 => ?_
  refine wp_region_lit ?_
  refine q_is rfl rfl (does_move (u := (Iv A_g.y)) (ev rfl)) (by dsimp only [List.set]; try rfl) ?_
  refine seqd rfl rfl (does_call (args := #[(Iv A_g.y), (Iv 1), (Iv 16)]) cal36 (evs rfl) (c_impl_in A_g.y 1 16 _)) ?_; rintro _ w64 ⟨E63, rfl⟩
  have X65 := Ext.gr X54 E63
  show wpList _ _ _ _ (fr [(.agg #[(Fl r1), (Fl r3), (Fl r5), (Fl r7), (Iv A_g.x), (Iv A_g.y), (Iv A_g.z), (.slice p11 A_g.vals.length q12)]), (Pt b15 0), (Bo false), Ud, (Iv A_g.y), Ud, v24, v25, v26, v27, v28, v29, v30, v31, v32, (Bo β2), (.agg #[(Iv A_g.x), (Iv A_g.y), (Iv A_g.z)]), (Iv 1), (Bo true), (Iv A_g.y), (Iv A_g.y), (Bo (inI A_g.y 1 16)), (Bo (!(inI A_g.x 1 16))), (Iv 1), Ud, Ud, Ud, Ud, Ud, Ud, Ud, Ud, Ud, Ud, Ud, Ud, Ud, Ud, Ud, Ud, Ud]) _
  refine q_is rfl rfl (does_not (ev rfl)) (by dsimp only [List.set]; try rfl) ?_
  refine wpList_nil (hK62 _ _ ?_)
  refine wp_cond_split (t := !(inI A_g.y 1 16)) (ev rfl) (fun c66 => ?_) (fun c66 => ?_)
  · rw [Bool.not_eq_true'] at c66
    have c66' := c66
    (try simp only [hβ1, hβ2] at c66')
    (try simp only [icmp, Bool.and_eq_true, Bool.or_eq_true, Bool.and_eq_false_iff, Bool.or_eq_false_iff, Bool.not_eq_true', Bool.not_eq_false', decide_eq_true_eq, decide_eq_false_iff_not, beq_iff_eq, bne_iff_ne, beq_eq_false_iff_ne, bne_eq_false_iff_eq] at c66')
    refine wp_seq_k fun K67 hK67 => ?_
    refine wp_region_lit ?_
    refine q_is rfl rfl (does_assign (u := (Bo false)) (ev rfl)) (by dsimp only [List.set]; try rfl) ?_
    refine wpList_nil (hK67 _ _ ?_)
    refine wp_ret ?_
    dsimp only [Exit.then, Exit.inBlock]
    refine ret_val (v := (Bo false)) (res_T rfl (slot rfl)) X65 ?_
    try simp only [h2, h4, h6, h8, hβ1, hβ2] at c39 c55 c66
    have x68 : (isGrid A_g) = false := by first | with_reducible rfl | (simp only [isGrid, cntOk, prod3, h2, h4, h6, h8, hβ1, hβ2, c39, c55, c66]; done) | (simp [isGrid, cntOk, prod3, h2, h4, h6, h8, hβ1, hβ2, c39, c55, c66]; done) | (revert c39 c55 c66; simp +contextual [isGrid, cntOk, prod3, h2, h4, h6, h8, hβ1, hβ2]; done) | (rcases c39' with hh | hh <;> simp only [hh, isGrid, cntOk, prod3, h2, h4, h6, h8, hβ1, hβ2, c39, c55, c66]; done) | (rcases c55' with hh | hh <;> simp only [hh, isGrid, cntOk, prod3, h2, h4, h6, h8, hβ1, hβ2, c39, c55, c66]; done) | (rcases c66' with hh | hh <;> simp only [hh, isGrid, cntOk, prod3, h2, h4, h6, h8, hβ1, hβ2, c39, c55, c66]; done) | (rcases c66' with hh | hh <;> simp_all [isGrid, cntOk, prod3]; done) | (rcases c66' with hh | hh | hh <;> simp_all [isGrid, cntOk, prod3]; done) | (rcases c66' with hh | hh | hh | hh <;> simp_all [isGrid, cntOk, prod3]; done) | (simp_all [isGrid, cntOk, prod3]; done) | rfl
    exact (by first | rfl | rw [x68])
  rw [Bool.not_eq_false'] at c66
  have c66' := c66
  (try simp only [hβ1, hβ2] at c66')
  (try simp only [icmp, Bool.and_eq_true, Bool.or_eq_true, Bool.and_eq_false_iff, Bool.or_eq_false_iff, Bool.not_eq_true', Bool.not_eq_false', decide_eq_true_eq, decide_eq_false_iff_not, beq_iff_eq, bne_iff_ne, beq_eq_false_iff_ne, bne_eq_false_iff_eq] at c66')
  refine wp_skip (hK60 _ _ ?_)
  refine wp_region_lit ?_
  refine q_is rfl rfl (does_iarith (p := 1) (q := 1) (r := (2)) (ev rfl) (ev rfl) (.inl ⟨rfl, rfl⟩)) (by dsimp only [List.set]; try rfl) ?_
  refine q_is rfl rfl (does_move (u := (Iv 2)) (ev rfl)) (by dsimp only [List.set]; try rfl) ?_
  refine wpList_nil ?_
  refine un_step ?_
  refine wp_seq_k fun K69 hK69 => ?_
  refine wp_region_lit ?_
  refine q_is rfl rfl (does_icmp (p := 2) (q := 3) (.inr (.inr (.inl rfl))) (ev rfl) (ev rfl)) (by dsimp only [List.set]; try rfl) ?_
  refine wpList_nil (hK69 _ _ ?_)
  refine wp_seq_k fun K70 hK70 => ?_
  refine wp_cond_true (ev rfl) ?_
  refine wp_skip (hK70 _ _ ?_)
  refine wp_seq_k fun K71 hK71 => ?_
  refine wp_block ?_
  refine wp_seq_k fun K72 hK72 => ?_
  refine wp_region_lit ?_
  refine q_is rfl rfl (does_index_run (r := (Iv A_g.z)) (ev rfl) (ev rfl) (fun w => ix64_2 _ _ _ w)) (by dsimp only [List.set]; try rfl) ?_
  refine q_is rfl rfl (does_assign (u := (Iv A_g.z)) (ev rfl)) (by dsimp only [List.set]; try rfl) ?_
  refine wpList_nil (hK72 _ _ ?_)
  refine wp_seq_k fun K73 hK73 => ?_
  refine wp_region_lit ?_
  refine q_is rfl rfl (does_move (u := (Iv A_g.z)) (ev rfl)) (by dsimp only [List.set]; try rfl) ?_
  refine seqd rfl rfl (does_call (args := #[(Iv A_g.z), (Iv 1), (Iv 16)]) cal36 (evs rfl) (c_impl_in A_g.z 1 16 _)) ?_; rintro _ w75 ⟨E74, rfl⟩
  have X76 := Ext.gr X65 E74
  show wpList _ _ _ _ (fr [(.agg #[(Fl r1), (Fl r3), (Fl r5), (Fl r7), (Iv A_g.x), (Iv A_g.y), (Iv A_g.z), (.slice p11 A_g.vals.length q12)]), (Pt b15 0), (Bo false), Ud, (Iv A_g.z), Ud, v24, v25, v26, v27, v28, v29, v30, v31, v32, (Bo β2), (.agg #[(Iv A_g.x), (Iv A_g.y), (Iv A_g.z)]), (Iv 2), (Bo true), (Iv A_g.z), (Iv A_g.z), (Bo (inI A_g.z 1 16)), (Bo (!(inI A_g.y 1 16))), (Iv 2), Ud, Ud, Ud, Ud, Ud, Ud, Ud, Ud, Ud, Ud, Ud, Ud, Ud, Ud, Ud, Ud, Ud]) _
  refine q_is rfl rfl (does_not (ev rfl)) (by dsimp only [List.set]; try rfl) ?_
  refine wpList_nil (hK73 _ _ ?_)
  refine wp_cond_split (t := !(inI A_g.z 1 16)) (ev rfl) (fun c77 => ?_) (fun c77 => ?_)
  · rw [Bool.not_eq_true'] at c77
    have c77' := c77
    (try simp only [hβ1, hβ2] at c77')
    (try simp only [icmp, Bool.and_eq_true, Bool.or_eq_true, Bool.and_eq_false_iff, Bool.or_eq_false_iff, Bool.not_eq_true', Bool.not_eq_false', decide_eq_true_eq, decide_eq_false_iff_not, beq_iff_eq, bne_iff_ne, beq_eq_false_iff_ne, bne_eq_false_iff_eq] at c77')
    refine wp_seq_k fun K78 hK78 => ?_
    refine wp_region_lit ?_
    refine q_is rfl rfl (does_assign (u := (Bo false)) (ev rfl)) (by dsimp only [List.set]; try rfl) ?_
    refine wpList_nil (hK78 _ _ ?_)
    refine wp_ret ?_
    dsimp only [Exit.then, Exit.inBlock]
    refine ret_val (v := (Bo false)) (res_T rfl (slot rfl)) X76 ?_
    try simp only [h2, h4, h6, h8, hβ1, hβ2] at c39 c55 c66 c77
    have x79 : (isGrid A_g) = false := by first | with_reducible rfl | (simp only [isGrid, cntOk, prod3, h2, h4, h6, h8, hβ1, hβ2, c39, c55, c66, c77]; done) | (simp [isGrid, cntOk, prod3, h2, h4, h6, h8, hβ1, hβ2, c39, c55, c66, c77]; done) | (revert c39 c55 c66 c77; simp +contextual [isGrid, cntOk, prod3, h2, h4, h6, h8, hβ1, hβ2]; done) | (rcases c39' with hh | hh <;> simp only [hh, isGrid, cntOk, prod3, h2, h4, h6, h8, hβ1, hβ2, c39, c55, c66, c77]; done) | (rcases c55' with hh | hh <;> simp only [hh, isGrid, cntOk, prod3, h2, h4, h6, h8, hβ1, hβ2, c39, c55, c66, c77]; done) | (rcases c66' with hh | hh <;> simp only [hh, isGrid, cntOk, prod3, h2, h4, h6, h8, hβ1, hβ2, c39, c55, c66, c77]; done) | (rcases c77' with hh | hh <;> simp only [hh, isGrid, cntOk, prod3, h2, h4, h6, h8, hβ1, hβ2, c39, c55, c66, c77]; done) | (rcases c77' with hh | hh <;> simp_all [isGrid, cntOk, prod3]; done) | (rcases c77' with hh | hh | hh <;> simp_all [isGrid, cntOk, prod3]; done) | (rcases c77' with hh | hh | hh | hh <;> simp_all [isGrid, cntOk, prod3]; done) | (simp_all [isGrid, cntOk, prod3]; done) | rfl
    exact (by first | rfl | rw [x79])
  rw [Bool.not_eq_false'] at c77
  have c77' := c77
  (try simp only [hβ1, hβ2] at c77')
  (try simp only [icmp, Bool.and_eq_true, Bool.or_eq_true, Bool.and_eq_false_iff, Bool.or_eq_false_iff, Bool.not_eq_true', Bool.not_eq_false', decide_eq_true_eq, decide_eq_false_iff_not, beq_iff_eq, bne_iff_ne, beq_eq_false_iff_ne, bne_eq_false_iff_eq] at c77')
  refine wp_skip (hK71 _ _ ?_)
  refine wp_region_lit ?_
  refine q_is rfl rfl (does_iarith (p := 2) (q := 1) (r := (3)) (ev rfl) (ev rfl) (.inl ⟨rfl, rfl⟩)) (by dsimp only [List.set]; try rfl) ?_
  refine q_is rfl rfl (does_move (u := (Iv 3)) (ev rfl)) (by dsimp only [List.set]; try rfl) ?_
  refine wpList_nil ?_
  refine un_step ?_
  refine wp_seq_k fun K80 hK80 => ?_
  refine wp_region_lit ?_
  refine q_is rfl rfl (does_icmp (p := 3) (q := 3) (.inr (.inr (.inl rfl))) (ev rfl) (ev rfl)) (by dsimp only [List.set]; try rfl) ?_
  refine wpList_nil (hK80 _ _ ?_)
  refine wp_seq_k fun K81 hK81 => ?_
  refine wp_cond_false (ev rfl) ?_
  refine wp_exit ?_
  refine hK42 _ _ ?_
  refine wp_seq_k fun K82 hK82 => ?_
  refine wp_region_lit ?_
  refine q_is rfl rfl (does_fieldAddr (ev rfl) fa33_2) (by dsimp only [List.set]; try rfl) ?_
  refine q_is rfl rfl (does_load (u := (Iv A_g.x)) (ev rfl) Try.isAgg2 (Cells.at (Blk.cells (((((hB17.ext E35).ext E44).ext E52).ext E63).ext E74)) 4 rfl)) (by dsimp only [List.set]; try rfl) ?_
  refine q_is rfl rfl (does_fieldAddr (ev rfl) fa33_3) (by dsimp only [List.set]; try rfl) ?_
  refine q_is rfl rfl (does_load (u := (Iv A_g.y)) (ev rfl) Try.isAgg2 (Cells.at (Blk.cells (((((hB17.ext E35).ext E44).ext E52).ext E63).ext E74)) 5 rfl)) (by dsimp only [List.set]; try rfl) ?_
  refine q_is rfl rfl (does_iarith (p := A_g.x) (q := A_g.y) (r := IntKind.i64.wrap (A_g.x * A_g.y)) (ev rfl) (ev rfl) (.inr (.inr ⟨rfl, rfl⟩))) (by dsimp only [List.set]; try rfl) ?_
  refine q_is rfl rfl (does_fieldAddr (ev rfl) fa33_4) (by dsimp only [List.set]; try rfl) ?_
  refine q_is rfl rfl (does_load (u := (Iv A_g.z)) (ev rfl) Try.isAgg2 (Cells.at (Blk.cells (((((hB17.ext E35).ext E44).ext E52).ext E63).ext E74)) 6 rfl)) (by dsimp only [List.set]; try rfl) ?_
  refine q_is rfl rfl (does_iarith (p := IntKind.i64.wrap (A_g.x * A_g.y)) (q := A_g.z) (r := IntKind.i64.wrap ((IntKind.i64.wrap (A_g.x * A_g.y)) * A_g.z)) (ev rfl) (ev rfl) (.inr (.inr ⟨rfl, rfl⟩))) (by dsimp only [List.set]; try rfl) ?_
  refine q_is rfl rfl (does_assign (u := (Iv (IntKind.i64.wrap ((IntKind.i64.wrap (A_g.x * A_g.y)) * A_g.z)))) (ev rfl)) (by dsimp only [List.set]; try rfl) ?_
  refine wpList_nil (hK82 _ _ ?_)
  refine wp_seq_k fun K83 hK83 => ?_
  obtain ⟨β3, hβ3⟩ : ∃ b : Bool, b = (icmp .leq (IntKind.i64.wrap ((IntKind.i64.wrap (A_g.x * A_g.y)) * A_g.z)) 1024) := ⟨_, rfl⟩
  obtain ⟨β4, hβ4⟩ : ∃ b : Bool, b = (icmp .eql (A_g.vals.length : Int) (IntKind.i64.wrap ((IntKind.i64.wrap (A_g.x * A_g.y)) * A_g.z))) := ⟨_, rfl⟩
  refine region_text (
    [Fact.pure [] (fun v => v = (Iv (IntKind.i64.wrap ((IntKind.i64.wrap (A_g.x * A_g.y)) * A_g.z)))),
    Fact.pure [32] (fun v => v = (Bo β3)),
    Fact.pure [33] (fun v => v = (Bo β3)),
    Fact.pure [34] (fun v => β3 = true → v = (Pt b15 7)),
    Fact.pure [35, 34] (fun v => β3 = true → v = (.slice p11 A_g.vals.length q12)),
    Fact.pure [36, 34] (fun v => β3 = true → v = (Iv (A_g.vals.length : Int))),
    Fact.pure [34] (fun v => β3 = true → v = (Iv (IntKind.i64.wrap ((IntKind.i64.wrap (A_g.x * A_g.y)) * A_g.z)))),
    Fact.pure [37, 38, 34] (fun v => β3 = true → v = (Bo β4)),
    Fact.pure [34, 39] (fun v => v = (Bo (β3 && β4)))]) (by simp [Fact.pure, Fact.mem]) ?_
  refine RW_d _ rfl (fun v => by dsimp only [List.set]; try rfl) (fun u hu hF => ?_) (fun v84 => ?_)
  · clear hF
    refine doesG_un rfl ?_
    refine (does_move (u := (Iv (IntKind.i64.wrap ((IntKind.i64.wrap (A_g.x * A_g.y)) * A_g.z)))) (ev rfl)).mono ?_; rintro _ _ ⟨rfl, rfl⟩
    exact ⟨rfl, Ext.refl _⟩
  refine RW_d _ rfl (fun v => by dsimp only [List.set]; try rfl) (fun u hu hF => ?_) (fun v85 => ?_)
  · have h32_ : v84 = (Iv (IntKind.i64.wrap ((IntKind.i64.wrap (A_g.x * A_g.y)) * A_g.z))) := hF.1
    clear hF
    refine doesG_un rfl ?_
    obtain rfl := h32_
    refine (does_icmp (p := IntKind.i64.wrap ((IntKind.i64.wrap (A_g.x * A_g.y)) * A_g.z)) (q := 1024) (.inr (.inr (.inr (.inl rfl)))) (ev rfl) (ev rfl)).mono ?_; rintro _ _ ⟨rfl, rfl⟩
    exact ⟨(by first | rfl | (show _ = _; simp only [hβ3])), Ext.refl _⟩
  refine RW_d _ rfl (fun v => by dsimp only [List.set]; try rfl) (fun u hu hF => ?_) (fun v86 => ?_)
  · have h33_ : v85 = (Bo β3) := hF.1
    clear hF
    refine doesG_un rfl ?_
    obtain rfl := h33_
    refine (does_move (u := (Bo β3)) (ev rfl)).mono ?_; rintro _ _ ⟨rfl, rfl⟩
    exact ⟨rfl, Ext.refl _⟩
  refine RW_d _ rfl (fun v => by dsimp only [List.set]; try rfl) (fun u hu hF => ?_) (fun v87 => ?_)
  · have h34_ : v86 = (Bo β3) := hF.1
    clear hF
    obtain rfl := h34_
    refine doesG_g (b := β3) rfl (yld rfl rfl) (fun hg1 => ?_) (fun hc => ⟨fun hg1 => absurd hg1 hc, Ext.refl _⟩)
    refine (does_fieldAddr (ev rfl) fa33_5).mono ?_; rintro _ _ ⟨rfl, rfl⟩
    exact ⟨fun _ => rfl, Ext.refl _⟩
  refine RW_d _ rfl (fun v => by dsimp only [List.set]; try rfl) (fun u hu hF => ?_) (fun v88 => ?_)
  · have h35_ : β3 = true → v87 = (Pt b15 7) := hF.1
    have h34_ : v86 = (Bo β3) := hF.2.1
    clear hF
    obtain rfl := h34_
    refine doesG_g (b := β3) rfl (yld rfl rfl) (fun hg1 => ?_) (fun hc => ⟨fun hg1 => absurd hg1 hc, Ext.refl _⟩)
    obtain rfl := h35_ hg1
    refine (does_load (u := (.slice p11 A_g.vals.length q12)) (ev rfl) Try.isAgg25 (Cells.at (Blk.cells ((((((hB17.ext E35).ext E44).ext E52).ext E63).ext E74).ext hu)) 7 rfl)).mono ?_; rintro _ _ ⟨rfl, rfl⟩
    exact ⟨fun _ => rfl, Ext.refl _⟩
  refine RW_d _ rfl (fun v => by dsimp only [List.set]; try rfl) (fun u hu hF => ?_) (fun v89 => ?_)
  · have h36_ : β3 = true → v88 = (.slice p11 A_g.vals.length q12) := hF.1
    have h34_ : v86 = (Bo β3) := hF.2.1
    clear hF
    obtain rfl := h34_
    refine doesG_g (b := β3) rfl (yld rfl rfl) (fun hg1 => ?_) (fun hc => ⟨fun hg1 => absurd hg1 hc, Ext.refl _⟩)
    obtain rfl := h36_ hg1
    refine (does_len_slice Try.underlying25 (ev rfl)).mono ?_; rintro _ _ ⟨rfl, rfl⟩
    exact ⟨fun _ => rfl, Ext.refl _⟩
  refine RW_d _ rfl (fun v => by dsimp only [List.set]; try rfl) (fun u hu hF => ?_) (fun v90 => ?_)
  · have h34_ : v86 = (Bo β3) := hF.1
    clear hF
    obtain rfl := h34_
    refine doesG_g (b := β3) rfl (yld rfl rfl) (fun hg1 => ?_) (fun hc => ⟨fun hg1 => absurd hg1 hc, Ext.refl _⟩)
    refine (does_move (u := (Iv (IntKind.i64.wrap ((IntKind.i64.wrap (A_g.x * A_g.y)) * A_g.z)))) (ev rfl)).mono ?_; rintro _ _ ⟨rfl, rfl⟩
    exact ⟨fun _ => rfl, Ext.refl _⟩
  refine RW_d _ rfl (fun v => by dsimp only [List.set]; try rfl) (fun u hu hF => ?_) (fun v91 => ?_)
  · have h37_ : β3 = true → v89 = (Iv (A_g.vals.length : Int)) := hF.1
    have h38_ : β3 = true → v90 = (Iv (IntKind.i64.wrap ((IntKind.i64.wrap (A_g.x * A_g.y)) * A_g.z))) := hF.2.1
    have h34_ : v86 = (Bo β3) := hF.2.2.1
    clear hF
    obtain rfl := h34_
    refine doesG_g (b := β3) rfl (yld rfl rfl) (fun hg1 => ?_) (fun hc => ⟨fun hg1 => absurd hg1 hc, Ext.refl _⟩)
    obtain rfl := h37_ hg1
    obtain rfl := h38_ hg1
    refine (does_icmp (p := (A_g.vals.length : Int)) (q := IntKind.i64.wrap ((IntKind.i64.wrap (A_g.x * A_g.y)) * A_g.z)) (.inl rfl) (ev rfl) (ev rfl)).mono ?_; rintro _ _ ⟨rfl, rfl⟩
    exact ⟨fun _ => (by first | rfl | (show _ = _; simp only [hβ4])), Ext.refl _⟩
  refine RW_d _ rfl (fun v => by dsimp only [List.set]; try rfl) (fun u hu hF => ?_) (fun v92 => ?_)
  · have h34_ : v86 = (Bo β3) := hF.1
    have h39_ : β3 = true → v91 = (Bo β4) := hF.2.1
    clear hF
    refine doesG_un rfl ?_
    skip
    obtain rfl := h34_
    refine (does_pick (b := β3) (ev rfl) (ev rfl) (ev rfl)).mono ?_; rintro _ _ ⟨rfl, rfl⟩; refine ⟨?_, Ext.refl _⟩; skip
    cases hbb : β3 <;> simp [hbb] at h39_ ⊢
    all_goals (first | rfl | (subst h39_; rfl) | simp_all)
  refine RW_fin ?_; intro w93 E94 hP95
  obtain ⟨⟨⟨⟨⟨⟨⟨⟨⟨-, -⟩, -⟩, -⟩, -⟩, -⟩, -⟩, -⟩, -⟩, q96⟩ := hP95
  have X97 := Ext.gr X76 E94
  have q96 : v92 = (Bo (β3 && β4)) := q96
  obtain rfl := q96
  show wpList _ _ _ _ (fr [(.agg #[(Fl r1), (Fl r3), (Fl r5), (Fl r7), (Iv A_g.x), (Iv A_g.y), (Iv A_g.z), (.slice p11 A_g.vals.length q12)]), (Pt b15 0), (Bo false), Ud, (Iv A_g.z), (Iv (IntKind.i64.wrap ((IntKind.i64.wrap (A_g.x * A_g.y)) * A_g.z))), v24, v25, v26, v27, v28, v29, v30, v31, v32, (Bo β2), (.agg #[(Iv A_g.x), (Iv A_g.y), (Iv A_g.z)]), (Iv 3), (Bo false), (Iv A_g.z), (Iv A_g.z), (Bo (inI A_g.z 1 16)), (Bo (!(inI A_g.z 1 16))), (Iv 3), (Pt b15 4), (Iv A_g.x), (Pt b15 5), (Iv A_g.y), (Iv (IntKind.i64.wrap (A_g.x * A_g.y))), (Pt b15 6), (Iv A_g.z), (Iv (IntKind.i64.wrap ((IntKind.i64.wrap (A_g.x * A_g.y)) * A_g.z))), v84, v85, v86, v87, v88, v89, v90, v91, (Bo (β3 && β4))]) _
  refine q_is rfl rfl (does_assign (u := (Bo (β3 && β4))) (ev rfl)) (by dsimp only [List.set]; try rfl) ?_
  refine wpList_nil (hK83 _ _ ?_)
  refine wp_ret ?_
  refine ret_val (v := (Bo (β3 && β4))) (res_T rfl (slot rfl)) X97 ?_
  try simp only [h2, h4, h6, h8, hβ1, hβ2, hβ3, hβ4] at c39 c55 c66 c77
  have x98 : (isGrid A_g) = (β3 && β4) := by first | with_reducible rfl | (simp only [isGrid, cntOk, prod3, h2, h4, h6, h8, hβ1, hβ2, hβ3, hβ4, c39, c55, c66, c77]; done) | (simp [isGrid, cntOk, prod3, h2, h4, h6, h8, hβ1, hβ2, hβ3, hβ4, c39, c55, c66, c77]; done) | (revert c39 c55 c66 c77; simp +contextual [isGrid, cntOk, prod3, h2, h4, h6, h8, hβ1, hβ2, hβ3, hβ4]; done) | (rcases c39' with hh | hh <;> simp only [hh, isGrid, cntOk, prod3, h2, h4, h6, h8, hβ1, hβ2, hβ3, hβ4, c39, c55, c66, c77]; done) | (rcases c55' with hh | hh <;> simp only [hh, isGrid, cntOk, prod3, h2, h4, h6, h8, hβ1, hβ2, hβ3, hβ4, c39, c55, c66, c77]; done) | (rcases c66' with hh | hh <;> simp only [hh, isGrid, cntOk, prod3, h2, h4, h6, h8, hβ1, hβ2, hβ3, hβ4, c39, c55, c66, c77]; done) | (rcases c77' with hh | hh <;> simp only [hh, isGrid, cntOk, prod3, h2, h4, h6, h8, hβ1, hβ2, hβ3, hβ4, c39, c55, c66, c77]; done) | (rcases c77' with hh | hh <;> simp_all [isGrid, cntOk, prod3]; done) | (rcases c77' with hh | hh | hh <;> simp_all [isGrid, cntOk, prod3]; done) | (rcases c77' with hh | hh | hh | hh <;> simp_all [isGrid, cntOk, prod3]; done) | (simp_all [isGrid, cntOk, prod3]; done) | rfl
  exact (by first | rfl | rw [x98])

/- impl.coordinates -/
theorem c_impl_coordinates (p : List Value) (A_p : V3) (w : World) (hv_p : RV3 w A_p p) : Gives Try.prog 26 #[(.agg p.toArray)] w (fun v w' => ∃ r_1 : Nat, ∃ r_2 : Nat, ∃ r_3 : Nat, v = (.agg #[(Fl r_1), (Fl r_2), (Fl r_3)]) ∧ cf .f32 r_1 = A_p.x ∧ cf .f32 r_2 = A_p.y ∧ cf .f32 r_3 = A_p.z) := by
  obtain ⟨r1, r3, r5, rfl, h2, h4, h6⟩ := hv_p
  refine enter [(.agg #[(Fl r1), (Fl r3), (Fl r5)]), Ud, Ud, Ud, Ud, Ud, Ud, Ud, Ud, Ud] Try.func26 rfl Try.ntmps26 rfl ?_
  refine wp_seq_k fun K7 hK7 => ?_
  refine wp_region_lit ?_
  refine seqd rfl rfl (does_box (u := (.agg #[(Fl r1), (Fl r3), (Fl r5)])) (ev rfl)) ?_; rintro _ w12 ⟨b8, rfl, hb9, hB10, E11⟩
  have g13 : w.heap.size ≤ b8 := Nat.le_trans (Below.size (Ext.refl w)) hb9
  change Blk _ _ [(Fl r1), (Fl r3), (Fl r5)] at hB10
  have X14 := Ext.gr (Ext.refl w) E11
  show wpList _ _ _ _ (fr [(.agg #[(Fl r1), (Fl r3), (Fl r5)]), (Pt b8 0), Ud, Ud, Ud, Ud, Ud, Ud, Ud, Ud]) _
  refine seqd rfl rfl (does_alloc z54) ?_; rintro _ w19 ⟨b15, rfl, hb16, hB17, E18⟩
  have n20 : b8 < b15 := Nat.lt_of_lt_of_le (Blk.lt hB10) hb16
  have g21 : w.heap.size ≤ b15 := Nat.le_trans (Below.size X14) hb16
  change Blk _ _ [(Fl 0), (Fl 0), (Fl 0)] at hB17
  have X22 := Ext.gr X14 E18
  show wpList _ _ _ _ (fr [(.agg #[(Fl r1), (Fl r3), (Fl r5)]), (Pt b8 0), (Pt b15 0), Ud, Ud, Ud, Ud, Ud, Ud, Ud]) _
  refine wpList_nil (hK7 _ _ ?_)
  refine wp_seq_k fun K23 hK23 => ?_
  refine wp_region_lit ?_
  refine q_is (l' := [(.agg #[(Fl r1), (Fl r3), (Fl r5)]), (Pt b8 0), (Pt b15 0), (Pt b8 0), Ud, Ud, Ud, Ud, Ud, Ud]) rfl rfl (does_fieldAddr (ev rfl) fa31_0) rfl ?_
  refine q_is (l' := [(.agg #[(Fl r1), (Fl r3), (Fl r5)]), (Pt b8 0), (Pt b15 0), (Pt b8 0), (Fl r1), Ud, Ud, Ud, Ud, Ud]) rfl rfl (does_load (u := (Fl r1)) (ev rfl) Try.isAgg22 (Cells.at (Blk.cells (hB10.ext E18)) 0 rfl)) rfl ?_
  refine q_is (l' := [(.agg #[(Fl r1), (Fl r3), (Fl r5)]), (Pt b8 0), (Pt b15 0), (Pt b8 0), (Fl r1), (Pt b8 1), Ud, Ud, Ud, Ud]) rfl rfl (does_fieldAddr (ev rfl) fa31_1) rfl ?_
  refine q_is (l' := [(.agg #[(Fl r1), (Fl r3), (Fl r5)]), (Pt b8 0), (Pt b15 0), (Pt b8 0), (Fl r1), (Pt b8 1), (Fl r3), Ud, Ud, Ud]) rfl rfl (does_load (u := (Fl r3)) (ev rfl) Try.isAgg22 (Cells.at (Blk.cells (hB10.ext E18)) 1 rfl)) rfl ?_
  refine q_is (l' := [(.agg #[(Fl r1), (Fl r3), (Fl r5)]), (Pt b8 0), (Pt b15 0), (Pt b8 0), (Fl r1), (Pt b8 1), (Fl r3), (Pt b8 2), Ud, Ud]) rfl rfl (does_fieldAddr (ev rfl) fa31_2) rfl ?_
  refine q_is (l' := [(.agg #[(Fl r1), (Fl r3), (Fl r5)]), (Pt b8 0), (Pt b15 0), (Pt b8 0), (Fl r1), (Pt b8 1), (Fl r3), (Pt b8 2), (Fl r5), Ud]) rfl rfl (does_load (u := (Fl r5)) (ev rfl) Try.isAgg22 (Cells.at (Blk.cells (hB10.ext E18)) 2 rfl)) rfl ?_
  refine q_is (l' := [(.agg #[(Fl r1), (Fl r3), (Fl r5)]), (Pt b8 0), (Pt b15 0), (Pt b8 0), (Fl r1), (Pt b8 1), (Fl r3), (Pt b8 2), (Fl r5), (.agg #[(Fl r1), (Fl r3), (Fl r5)])]) rfl rfl (does_build (parts' := [(0, (Fl r1)), (1, (Fl r3)), (2, (Fl r5))]) (cells := #[(Fl r1), (Fl r3), (Fl r5)]) (evp rfl) (by kernel_rfl)) rfl ?_
  refine seqn rfl rfl (does_store (n := 3) (cs := [(Fl 0), (Fl 0), (Fl 0)]) (u := (.agg #[(Fl r1), (Fl r3), (Fl r5)])) (ev rfl) (ev rfl) Try.sizeOf54 rfl hB17 (Nat.le_of_ble_eq_true rfl) rfl) ?_; rintro _ w26 ⟨rfl, W24, hB25⟩
  change Blk _ _ [(Fl r1), (Fl r3), (Fl r5)] at hB25
  have X27 := Below.wr X22 W24 g21
  refine wpList_nil (hK23 _ _ ?_)
  refine wp_ret ?_
  refine ret_val (v := (.agg #[(Fl r1), (Fl r3), (Fl r5)])) (res_C rfl (slot rfl) (run_loadAgg (cs := [(Fl r1), (Fl r3), (Fl r5)]) Try.isAgg54 Try.sizeOf54 (Blk.cells hB25) rfl)) X27 ?_
  have x28 : cf .f32 r1 = A_p.x := by first | with_reducible rfl | (simp only [h2, h4, h6]; done) | (simp [h2, h4, h6]; done) | rfl
  have x29 : cf .f32 r3 = A_p.y := by first | with_reducible rfl | (simp only [h2, h4, h6]; done) | (simp [h2, h4, h6]; done) | rfl
  have x30 : cf .f32 r5 = A_p.z := by first | with_reducible rfl | (simp only [h2, h4, h6]; done) | (simp [h2, h4, h6]; done) | rfl
  exact ⟨r1, r3, r5, rfl, x28, x29, x30⟩

/- (*impl.Grid).index -/
theorem c_impl_Grid_index (g_b : Nat) (g_o : Nat) (g : List Value) (A_g : GridT) (x : Int) (y : Int) (z : Int) (w : World) (hc_g : Cells w g_b g_o g) (hv_g : RGridT w A_g g) : Gives Try.prog 41 #[(Pt g_b g_o), (.agg #[(Iv x), (Iv y), (Iv z)])] w (fun v w' => v = (Iv (idxG A_g x y z))) := by
  obtain ⟨r1, r3, r5, r7, y9, rfl, h2, h4, h6, h8, h10⟩ := hv_g
  have hs13 := h10; have hs13l := Sl.len h10; obtain ⟨p11, q12, rfl⟩ := Sl.shape h10
  refine enter [(Pt g_b g_o), (.agg #[(Iv x), (Iv y), (Iv z)]), Ud, Ud, Ud, Ud, Ud, Ud, Ud, Ud, Ud, Ud, Ud, Ud, Ud, Ud, Ud, Ud, Ud, Ud, Ud, Ud, Ud] Try.func41 rfl Try.ntmps41 rfl ?_
  refine wp_seq_k fun K14 hK14 => ?_
  refine wp_region_lit ?_
  refine seqd rfl rfl (does_box (u := (.agg #[(Iv x), (Iv y), (Iv z)])) (ev rfl)) ?_; rintro _ w19 ⟨b15, rfl, hb16, hB17, E18⟩
  have n20 : g_b < b15 := Nat.lt_of_lt_of_le (cell_lt (Cells.at hc_g 0 rfl)) hb16
  have g21 : w.heap.size ≤ b15 := Nat.le_trans (Below.size (Ext.refl w)) hb16
  change Blk _ _ [(Iv x), (Iv y), (Iv z)] at hB17
  have X22 := Ext.gr (Ext.refl w) E18
  show wpList _ _ _ _ (fr [(Pt g_b g_o), (.agg #[(Iv x), (Iv y), (Iv z)]), Ud, (Pt b15 0), Ud, Ud, Ud, Ud, Ud, Ud, Ud, Ud, Ud, Ud, Ud, Ud, Ud, Ud, Ud, Ud, Ud, Ud, Ud]) _
  refine q_is (l' := [(Pt g_b g_o), (.agg #[(Iv x), (Iv y), (Iv z)]), Ud, (Pt b15 0), (Iv 0), Ud, Ud, Ud, Ud, Ud, Ud, Ud, Ud, Ud, Ud, Ud, Ud, Ud, Ud, Ud, Ud, Ud, Ud]) rfl rfl (does_assign (u := (Iv 0)) (ev rfl)) rfl ?_
  refine wpList_nil (hK14 _ _ ?_)
  refine wp_seq_k fun K23 hK23 => ?_
  refine region_draw (
    [Fact.pure [] (fun v => v = (Pt b15 0)),
    Fact.pure [5] (fun v => v = (Iv x)),
    Fact.pure [] (fun v => v = (Pt g_b g_o)),
    Fact.pure [7] (fun v => v = (Pt g_b g_o)),
    Fact.pure [8] (fun v => v = (Pt g_b (g_o + 4))),
    Fact.pure [9] (fun v => v = (Iv A_g.x)),
    Fact.pure [] (fun v => v = (Pt b15 1)),
    Fact.pure [11] (fun v => v = (Iv y)),
    Fact.pure [] (fun v => v = (Pt g_b g_o)),
    Fact.pure [13] (fun v => v = (Pt g_b g_o)),
    Fact.pure [14] (fun v => v = (Pt g_b (g_o + 5))),
    Fact.pure [15] (fun v => v = (Iv A_g.y)),
    Fact.pure [] (fun v => v = (Pt b15 2)),
    Fact.pure [17] (fun v => v = (Iv z)),
    Fact.pure [16, 18] (fun v => v = (Iv (IntKind.i64.wrap (A_g.y * z)))),
    Fact.pure [12, 19] (fun v => v = (Iv (IntKind.i64.wrap (y + (IntKind.i64.wrap (A_g.y * z)))))),
    Fact.pure [10, 20] (fun v => v = (Iv (IntKind.i64.wrap (A_g.x * (IntKind.i64.wrap (y + (IntKind.i64.wrap (A_g.y * z)))))))),
    Fact.pure [6, 21] (fun v => v = (Iv (IntKind.i64.wrap (x + (IntKind.i64.wrap (A_g.x * (IntKind.i64.wrap (y + (IntKind.i64.wrap (A_g.y * z))))))))))]) mixed (by kernel_rfl) (by intro _ _ d _ _ h; cases d <;> exact h) ?_
  obtain ⟨w24, hw26⟩ : ∃ w', w' = World.drew w19 := ⟨_, rfl⟩; rw [← hw26]; have E25 : Ext w19 w24 := by rw [hw26]; exact Ext.draw _
  clear hw26
  have X27 := Ext.gr X22 E25
  refine RW_d (fun v28 => [(Pt g_b g_o), (.agg #[(Iv x), (Iv y), (Iv z)]), Ud, (Pt b15 0), (Iv 0), v28, Ud, Ud, Ud, Ud, Ud, Ud, Ud, Ud, Ud, Ud, Ud, Ud, Ud, Ud, Ud, Ud, Ud]) rfl (fun _ => rfl) (fun u hu hF => ?_) (fun v28 => ?_)
  · clear hF
    refine doesG_un rfl ?_
    refine (does_indexAt_run (r := (Pt b15 0)) (ev rfl) (ev rfl) (fun w => ia64_0 _ _ w)).mono ?_; rintro _ _ ⟨rfl, rfl⟩
    exact ⟨rfl, Ext.refl _⟩
  refine RW_d (fun v29 => [(Pt g_b g_o), (.agg #[(Iv x), (Iv y), (Iv z)]), Ud, (Pt b15 0), (Iv 0), v28, v29, Ud, Ud, Ud, Ud, Ud, Ud, Ud, Ud, Ud, Ud, Ud, Ud, Ud, Ud, Ud, Ud]) rfl (fun _ => rfl) (fun u hu hF => ?_) (fun v29 => ?_)
  · have h5_ : v28 = (Pt b15 0) := hF.1
    clear hF
    refine doesG_un rfl ?_
    obtain rfl := h5_
    refine (does_load (u := (Iv x)) (ev rfl) Try.isAgg2 (Cells.at (Blk.cells ((hB17.ext E25).ext hu)) 0 rfl)).mono ?_; rintro _ _ ⟨rfl, rfl⟩
    exact ⟨rfl, Ext.refl _⟩
  refine RW_d (fun v30 => [(Pt g_b g_o), (.agg #[(Iv x), (Iv y), (Iv z)]), Ud, (Pt b15 0), (Iv 0), v28, v29, v30, Ud, Ud, Ud, Ud, Ud, Ud, Ud, Ud, Ud, Ud, Ud, Ud, Ud, Ud, Ud]) rfl (fun _ => rfl) (fun u hu hF => ?_) (fun v30 => ?_)
  · clear hF
    refine doesG_un rfl ?_
    refine (does_move (u := (Pt g_b g_o)) (ev rfl)).mono ?_; rintro _ _ ⟨rfl, rfl⟩
    exact ⟨rfl, Ext.refl _⟩
  refine RW_d (fun v31 => [(Pt g_b g_o), (.agg #[(Iv x), (Iv y), (Iv z)]), Ud, (Pt b15 0), (Iv 0), v28, v29, v30, v31, Ud, Ud, Ud, Ud, Ud, Ud, Ud, Ud, Ud, Ud, Ud, Ud, Ud, Ud]) rfl (fun _ => rfl) (fun u hu hF => ?_) (fun v31 => ?_)
  · have h7_ : v30 = (Pt g_b g_o) := hF.1
    clear hF
    refine doesG_un rfl ?_
    obtain rfl := h7_
    refine (does_nilCheck (ev rfl)).mono ?_; rintro _ _ ⟨rfl, rfl⟩
    exact ⟨rfl, Ext.refl _⟩
  refine RW_d (fun v32 => [(Pt g_b g_o), (.agg #[(Iv x), (Iv y), (Iv z)]), Ud, (Pt b15 0), (Iv 0), v28, v29, v30, v31, v32, Ud, Ud, Ud, Ud, Ud, Ud, Ud, Ud, Ud, Ud, Ud, Ud, Ud]) rfl (fun _ => rfl) (fun u hu hF => ?_) (fun v32 => ?_)
  · have h8_ : v31 = (Pt g_b g_o) := hF.1
    clear hF
    refine doesG_un rfl ?_
    obtain rfl := h8_
    refine (does_fieldAddr (ev rfl) fa33_2).mono ?_; rintro _ _ ⟨rfl, rfl⟩
    exact ⟨rfl, Ext.refl _⟩
  refine RW_d (fun v33 => [(Pt g_b g_o), (.agg #[(Iv x), (Iv y), (Iv z)]), Ud, (Pt b15 0), (Iv 0), v28, v29, v30, v31, v32, v33, Ud, Ud, Ud, Ud, Ud, Ud, Ud, Ud, Ud, Ud, Ud, Ud]) rfl (fun _ => rfl) (fun u hu hF => ?_) (fun v33 => ?_)
  · have h9_ : v32 = (Pt g_b (g_o + 4)) := hF.1
    clear hF
    refine doesG_un rfl ?_
    obtain rfl := h9_
    refine (does_load (u := (Iv A_g.x)) (ev rfl) Try.isAgg2 (Cells.at ((hc_g.ext (Ext.gr X22 E25)).ext hu) 4 rfl)).mono ?_; rintro _ _ ⟨rfl, rfl⟩
    exact ⟨rfl, Ext.refl _⟩
  refine RW_d (fun v34 => [(Pt g_b g_o), (.agg #[(Iv x), (Iv y), (Iv z)]), Ud, (Pt b15 0), (Iv 0), v28, v29, v30, v31, v32, v33, v34, Ud, Ud, Ud, Ud, Ud, Ud, Ud, Ud, Ud, Ud, Ud]) rfl (fun _ => rfl) (fun u hu hF => ?_) (fun v34 => ?_)
  · clear hF
    refine doesG_un rfl ?_
    refine (does_indexAt_run (r := (Pt b15 1)) (ev rfl) (ev rfl) (fun w => ia64_1 _ _ w)).mono ?_; rintro _ _ ⟨rfl, rfl⟩
    exact ⟨rfl, Ext.refl _⟩
  refine RW_d (fun v35 => [(Pt g_b g_o), (.agg #[(Iv x), (Iv y), (Iv z)]), Ud, (Pt b15 0), (Iv 0), v28, v29, v30, v31, v32, v33, v34, v35, Ud, Ud, Ud, Ud, Ud, Ud, Ud, Ud, Ud, Ud]) rfl (fun _ => rfl) (fun u hu hF => ?_) (fun v35 => ?_)
  · have h11_ : v34 = (Pt b15 1) := hF.1
    clear hF
    refine doesG_un rfl ?_
    obtain rfl := h11_
    refine (does_load (u := (Iv y)) (ev rfl) Try.isAgg2 (Cells.at (Blk.cells ((hB17.ext E25).ext hu)) 1 rfl)).mono ?_; rintro _ _ ⟨rfl, rfl⟩
    exact ⟨rfl, Ext.refl _⟩
  refine RW_d (fun v36 => [(Pt g_b g_o), (.agg #[(Iv x), (Iv y), (Iv z)]), Ud, (Pt b15 0), (Iv 0), v28, v29, v30, v31, v32, v33, v34, v35, v36, Ud, Ud, Ud, Ud, Ud, Ud, Ud, Ud, Ud]) rfl (fun _ => rfl) (fun u hu hF => ?_) (fun v36 => ?_)
  · clear hF
    refine doesG_un rfl ?_
    refine (does_move (u := (Pt g_b g_o)) (ev rfl)).mono ?_; rintro _ _ ⟨rfl, rfl⟩
    exact ⟨rfl, Ext.refl _⟩
  refine RW_d (fun v37 => [(Pt g_b g_o), (.agg #[(Iv x), (Iv y), (Iv z)]), Ud, (Pt b15 0), (Iv 0), v28, v29, v30, v31, v32, v33, v34, v35, v36, v37, Ud, Ud, Ud, Ud, Ud, Ud, Ud, Ud]) rfl (fun _ => rfl) (fun u hu hF => ?_) (fun v37 => ?_)
  · have h13_ : v36 = (Pt g_b g_o) := hF.1
    clear hF
    refine doesG_un rfl ?_
    obtain rfl := h13_
    refine (does_nilCheck (ev rfl)).mono ?_; rintro _ _ ⟨rfl, rfl⟩
    exact ⟨rfl, Ext.refl _⟩
  refine RW_d (fun v38 => [(Pt g_b g_o), (.agg #[(Iv x), (Iv y), (Iv z)]), Ud, (Pt b15 0), (Iv 0), v28, v29, v30, v31, v32, v33, v34, v35, v36, v37, v38, Ud, Ud, Ud, Ud, Ud, Ud, Ud]) rfl (fun _ => rfl) (fun u hu hF => ?_) (fun v38 => ?_)
  · have h14_ : v37 = (Pt g_b g_o) := hF.1
    clear hF
    refine doesG_un rfl ?_
    obtain rfl := h14_
    refine (does_fieldAddr (ev rfl) fa33_3).mono ?_; rintro _ _ ⟨rfl, rfl⟩
    exact ⟨rfl, Ext.refl _⟩
  refine RW_d (fun v39 => [(Pt g_b g_o), (.agg #[(Iv x), (Iv y), (Iv z)]), Ud, (Pt b15 0), (Iv 0), v28, v29, v30, v31, v32, v33, v34, v35, v36, v37, v38, v39, Ud, Ud, Ud, Ud, Ud, Ud]) rfl (fun _ => rfl) (fun u hu hF => ?_) (fun v39 => ?_)
  · have h15_ : v38 = (Pt g_b (g_o + 5)) := hF.1
    clear hF
    refine doesG_un rfl ?_
    obtain rfl := h15_
    refine (does_load (u := (Iv A_g.y)) (ev rfl) Try.isAgg2 (Cells.at ((hc_g.ext (Ext.gr X22 E25)).ext hu) 5 rfl)).mono ?_; rintro _ _ ⟨rfl, rfl⟩
    exact ⟨rfl, Ext.refl _⟩
  refine RW_d (fun v40 => [(Pt g_b g_o), (.agg #[(Iv x), (Iv y), (Iv z)]), Ud, (Pt b15 0), (Iv 0), v28, v29, v30, v31, v32, v33, v34, v35, v36, v37, v38, v39, v40, Ud, Ud, Ud, Ud, Ud]) rfl (fun _ => rfl) (fun u hu hF => ?_) (fun v40 => ?_)
  · clear hF
    refine doesG_un rfl ?_
    refine (does_indexAt_run (r := (Pt b15 2)) (ev rfl) (ev rfl) (fun w => ia64_2 _ _ w)).mono ?_; rintro _ _ ⟨rfl, rfl⟩
    exact ⟨rfl, Ext.refl _⟩
  refine RW_d (fun v41 => [(Pt g_b g_o), (.agg #[(Iv x), (Iv y), (Iv z)]), Ud, (Pt b15 0), (Iv 0), v28, v29, v30, v31, v32, v33, v34, v35, v36, v37, v38, v39, v40, v41, Ud, Ud, Ud, Ud]) rfl (fun _ => rfl) (fun u hu hF => ?_) (fun v41 => ?_)
  · have h17_ : v40 = (Pt b15 2) := hF.1
    clear hF
    refine doesG_un rfl ?_
    obtain rfl := h17_
    refine (does_load (u := (Iv z)) (ev rfl) Try.isAgg2 (Cells.at (Blk.cells ((hB17.ext E25).ext hu)) 2 rfl)).mono ?_; rintro _ _ ⟨rfl, rfl⟩
    exact ⟨rfl, Ext.refl _⟩
  refine RW_d (fun v42 => [(Pt g_b g_o), (.agg #[(Iv x), (Iv y), (Iv z)]), Ud, (Pt b15 0), (Iv 0), v28, v29, v30, v31, v32, v33, v34, v35, v36, v37, v38, v39, v40, v41, v42, Ud, Ud, Ud]) rfl (fun _ => rfl) (fun u hu hF => ?_) (fun v42 => ?_)
  · have h16_ : v39 = (Iv A_g.y) := hF.1
    have h18_ : v41 = (Iv z) := hF.2.1
    clear hF
    refine doesG_un rfl ?_
    obtain rfl := h16_
    obtain rfl := h18_
    refine (does_iarith (p := A_g.y) (q := z) (r := IntKind.i64.wrap (A_g.y * z)) (ev rfl) (ev rfl) (.inr (.inr ⟨rfl, rfl⟩))).mono ?_; rintro _ _ ⟨rfl, rfl⟩
    exact ⟨rfl, Ext.refl _⟩
  refine RW_d (fun v43 => [(Pt g_b g_o), (.agg #[(Iv x), (Iv y), (Iv z)]), Ud, (Pt b15 0), (Iv 0), v28, v29, v30, v31, v32, v33, v34, v35, v36, v37, v38, v39, v40, v41, v42, v43, Ud, Ud]) rfl (fun _ => rfl) (fun u hu hF => ?_) (fun v43 => ?_)
  · have h12_ : v35 = (Iv y) := hF.1
    have h19_ : v42 = (Iv (IntKind.i64.wrap (A_g.y * z))) := hF.2.1
    clear hF
    refine doesG_un rfl ?_
    obtain rfl := h12_
    obtain rfl := h19_
    refine (does_iarith (p := y) (q := IntKind.i64.wrap (A_g.y * z)) (r := IntKind.i64.wrap (y + (IntKind.i64.wrap (A_g.y * z)))) (ev rfl) (ev rfl) (.inl ⟨rfl, rfl⟩)).mono ?_; rintro _ _ ⟨rfl, rfl⟩
    exact ⟨rfl, Ext.refl _⟩
  refine RW_d (fun v44 => [(Pt g_b g_o), (.agg #[(Iv x), (Iv y), (Iv z)]), Ud, (Pt b15 0), (Iv 0), v28, v29, v30, v31, v32, v33, v34, v35, v36, v37, v38, v39, v40, v41, v42, v43, v44, Ud]) rfl (fun _ => rfl) (fun u hu hF => ?_) (fun v44 => ?_)
  · have h10_ : v33 = (Iv A_g.x) := hF.1
    have h20_ : v43 = (Iv (IntKind.i64.wrap (y + (IntKind.i64.wrap (A_g.y * z))))) := hF.2.1
    clear hF
    refine doesG_un rfl ?_
    obtain rfl := h10_
    obtain rfl := h20_
    refine (does_iarith (p := A_g.x) (q := IntKind.i64.wrap (y + (IntKind.i64.wrap (A_g.y * z)))) (r := IntKind.i64.wrap (A_g.x * (IntKind.i64.wrap (y + (IntKind.i64.wrap (A_g.y * z)))))) (ev rfl) (ev rfl) (.inr (.inr ⟨rfl, rfl⟩))).mono ?_; rintro _ _ ⟨rfl, rfl⟩
    exact ⟨rfl, Ext.refl _⟩
  refine RW_d (fun v45 => [(Pt g_b g_o), (.agg #[(Iv x), (Iv y), (Iv z)]), Ud, (Pt b15 0), (Iv 0), v28, v29, v30, v31, v32, v33, v34, v35, v36, v37, v38, v39, v40, v41, v42, v43, v44, v45]) rfl (fun _ => rfl) (fun u hu hF => ?_) (fun v45 => ?_)
  · have h6_ : v29 = (Iv x) := hF.1
    have h21_ : v44 = (Iv (IntKind.i64.wrap (A_g.x * (IntKind.i64.wrap (y + (IntKind.i64.wrap (A_g.y * z))))))) := hF.2.1
    clear hF
    refine doesG_un rfl ?_
    obtain rfl := h6_
    obtain rfl := h21_
    refine (does_iarith (p := x) (q := IntKind.i64.wrap (A_g.x * (IntKind.i64.wrap (y + (IntKind.i64.wrap (A_g.y * z)))))) (r := IntKind.i64.wrap (x + (IntKind.i64.wrap (A_g.x * (IntKind.i64.wrap (y + (IntKind.i64.wrap (A_g.y * z)))))))) (ev rfl) (ev rfl) (.inl ⟨rfl, rfl⟩)).mono ?_; rintro _ _ ⟨rfl, rfl⟩
    exact ⟨rfl, Ext.refl _⟩
  refine RW_fin ?_; intro w46 E47 hP48
  obtain ⟨⟨⟨⟨⟨⟨⟨⟨⟨⟨⟨⟨⟨⟨⟨⟨⟨⟨-, -⟩, -⟩, -⟩, -⟩, -⟩, -⟩, -⟩, -⟩, -⟩, -⟩, -⟩, -⟩, -⟩, -⟩, -⟩, -⟩, -⟩, q49⟩ := hP48
  have X50 := Ext.gr X27 E47
  have q49 : v45 = (Iv (IntKind.i64.wrap (x + (IntKind.i64.wrap (A_g.x * (IntKind.i64.wrap (y + (IntKind.i64.wrap (A_g.y * z))))))))) := q49
  obtain rfl := q49
  show wpList _ _ _ _ (fr [(Pt g_b g_o), (.agg #[(Iv x), (Iv y), (Iv z)]), Ud, (Pt b15 0), (Iv 0), v28, v29, v30, v31, v32, v33, v34, v35, v36, v37, v38, v39, v40, v41, v42, v43, v44, (Iv (IntKind.i64.wrap (x + (IntKind.i64.wrap (A_g.x * (IntKind.i64.wrap (y + (IntKind.i64.wrap (A_g.y * z)))))))))]) _
  refine q_is (l' := [(Pt g_b g_o), (.agg #[(Iv x), (Iv y), (Iv z)]), Ud, (Pt b15 0), (Iv (IntKind.i64.wrap (x + (IntKind.i64.wrap (A_g.x * (IntKind.i64.wrap (y + (IntKind.i64.wrap (A_g.y * z))))))))), v28, v29, v30, v31, v32, v33, v34, v35, v36, v37, v38, v39, v40, v41, v42, v43, v44, (Iv (IntKind.i64.wrap (x + (IntKind.i64.wrap (A_g.x * (IntKind.i64.wrap (y + (IntKind.i64.wrap (A_g.y * z)))))))))]) rfl rfl (does_assign (u := (Iv (IntKind.i64.wrap (x + (IntKind.i64.wrap (A_g.x * (IntKind.i64.wrap (y + (IntKind.i64.wrap (A_g.y * z)))))))))) (ev rfl)) rfl ?_
  refine wpList_nil (hK23 _ _ ?_)
  refine wp_ret ?_
  refine ret_val (v := (Iv (IntKind.i64.wrap (x + (IntKind.i64.wrap (A_g.x * (IntKind.i64.wrap (y + (IntKind.i64.wrap (A_g.y * z)))))))))) (res_T rfl (slot rfl)) X50 ?_
  have x51 : (idxG A_g x y z : Int) = (IntKind.i64.wrap (x + (IntKind.i64.wrap (A_g.x * (IntKind.i64.wrap (y + (IntKind.i64.wrap (A_g.y * z)))))))) := by first | with_reducible rfl | (simp only [idxG, h2, h4, h6, h8]; done) | (simp [idxG, h2, h4, h6, h8]; done) | rfl
  exact (by first | rfl | rw [x51])

/- (*impl.Grid).between$2 -/
theorem c_impl_Grid_between_2 (y_ : Int) (z_ : Int) (pal_b : Nat) (pal_o : Nat) (al : Value) (pr_al : Nat → Nat → Nat → Nat) (pg_b : Nat) (pg_o : Nat) (g_b : Nat) (g_o : Nat) (g : List Value) (A_g : GridT) (pf_b : Nat) (pf_o : Nat) (f0 : Int) (f1 : Int) (f2 : Int) (ps_b : Nat) (ps_o : Nat) (s0 : Int) (s1 : Int) (s2 : Int) (ph_b : Nat) (ph_o : Nat) (h0 : Nat) (h1 : Nat) (h2 : Nat) (w : World) (hv_al : ∃ fi fst cap, al = .func (.func fi) fst cap ∧ (∀ args w, (callFunc fi args).run Try.prog w = .ok (.enter fi args) w) ∧ ∀ (r t q : Nat) u, Ext w u → Gives Try.prog fi (fst ++ #[Fl r, Fl t, Fl q] ++ cap) u (fun v _ => ∃ o, v = Fl o ∧ cf .f32 o = pr_al (cf .f32 r) (cf .f32 t) (cf .f32 q))) (hc_pal : Cells w pal_b pal_o [al]) (hc_g : Cells w g_b g_o g) (hv_g : RGridT w A_g g) (hc_pg : Cells w pg_b pg_o [(Pt g_b g_o)]) (hc_pf : Cells w pf_b pf_o [(Iv f0), (Iv f1), (Iv f2)]) (hc_ps : Cells w ps_b ps_o [(Iv s0), (Iv s1), (Iv s2)]) (hc_ph : Cells w ph_b ph_o [(Fl h0), (Fl h1), (Fl h2)]) (hd0 : 0 ≤ idxG A_g f0 y_ z_ ∧ idxG A_g f0 y_ z_ < A_g.vals.length) (hd1 : 0 ≤ idxG A_g s0 y_ z_ ∧ idxG A_g s0 y_ z_ < A_g.vals.length) : Gives Try.prog 40 #[(Iv y_), (Iv z_), (Pt pal_b pal_o), (Pt pg_b pg_o), (Pt pf_b pf_o), (Pt ps_b ps_o), (Pt ph_b ph_o)] w (fun v w' => ∃ r_1 : Nat, v = (Fl r_1) ∧ cf .f32 r_1 = pr_al (vat A_g f0 y_ z_) (vat A_g s0 y_ z_) (cf .f32 h0)) := by
  obtain ⟨f_al, s_al, c_al, rfl, hcal_al, hg_al⟩ := hv_al
  obtain ⟨r1, r3, r5, r7, y9, rfl, h2, h4, h6, h8, h10⟩ := hv_g
  have hs13 := h10; have hs13l := Sl.len h10; obtain ⟨p11, q12, rfl⟩ := Sl.shape h10
  refine enter [(Iv y_), (Iv z_), (Pt pal_b pal_o), (Pt pg_b pg_o), (Pt pf_b pf_o), (Pt ps_b ps_o), (Pt ph_b ph_o), Ud, Ud, Ud, Ud, Ud, Ud, Ud, Ud, Ud, Ud, Ud, Ud, Ud, Ud, Ud, Ud, Ud, Ud, Ud, Ud, Ud, Ud, Ud, Ud, Ud, Ud, Ud, Ud, Ud, Ud, Ud, Ud, Ud] Try.func40 rfl Try.ntmps40 rfl ?_
  refine wp_seq_k fun K14 hK14 => ?_
  refine wp_region_lit ?_
  refine q_is rfl rfl (does_assign (u := (Fl 0)) (ev rfl)) (by dsimp only [List.set]; try rfl) ?_
  refine wpList_nil (hK14 _ _ ?_)
  refine wp_seq_k fun K15 hK15 => ?_
  obtain ⟨el1, hel1⟩ : ∃ e, A_g.vals[(idxG A_g f0 y_ z_).toNat]? = some e := ⟨_, List.getElem?_eq_getElem (by omega)⟩
  obtain ⟨el2, hel2⟩ : ∃ e, A_g.vals[(idxG A_g s0 y_ z_).toNat]? = some e := ⟨_, List.getElem?_eq_getElem (by omega)⟩
  refine region_draw (
    [Fact.pure [] (fun v => v = (.func (.func f_al) s_al c_al)),
    Fact.pure [] (fun v => v = (Pt g_b g_o)),
    Fact.pure [11] (fun v => v = (Pt g_b g_o)),
    Fact.pure [12] (fun v => v = (Pt g_b (g_o + 7))),
    Fact.pure [13] (fun v => v = (.slice p11 A_g.vals.length q12)),
    Fact.pure [] (fun v => v = (Pt g_b g_o)),
    Fact.pure [] (fun v => v = (Pt pf_b pf_o)),
    Fact.pure [16] (fun v => v = (Iv f0)),
    Fact.pure [] (fun v => v = (Iv y_)),
    Fact.pure [] (fun v => v = (Iv z_)),
    Fact.pure [17, 18, 19] (fun v => v = (.agg #[(Iv f0), (Iv y_), (Iv z_)])),
    Fact.pure [15, 20] (fun v => v = (Iv (idxG A_g f0 y_ z_))),
    Fact.mem [14, 21] (fun v w' => PtrR RF w' v el1) (by intro v w1 w2 hx h; exact h.ext RF.mono hx),
    Fact.pure [22] (fun v => ∃ r_1 : Nat, v = (Fl r_1) ∧ cf .f32 r_1 = el1),
    Fact.pure [] (fun v => v = (Pt g_b g_o)),
    Fact.pure [24] (fun v => v = (Pt g_b g_o)),
    Fact.pure [25] (fun v => v = (Pt g_b (g_o + 7))),
    Fact.pure [26] (fun v => v = (.slice p11 A_g.vals.length q12)),
    Fact.pure [] (fun v => v = (Pt g_b g_o)),
    Fact.pure [] (fun v => v = (Pt ps_b ps_o)),
    Fact.pure [29] (fun v => v = (Iv s0)),
    Fact.pure [] (fun v => v = (Iv y_)),
    Fact.pure [] (fun v => v = (Iv z_)),
    Fact.pure [30, 31, 32] (fun v => v = (.agg #[(Iv s0), (Iv y_), (Iv z_)])),
    Fact.pure [28, 33] (fun v => v = (Iv (idxG A_g s0 y_ z_))),
    Fact.mem [27, 34] (fun v w' => PtrR RF w' v el2) (by intro v w1 w2 hx h; exact h.ext RF.mono hx),
    Fact.pure [35] (fun v => ∃ r_1 : Nat, v = (Fl r_1) ∧ cf .f32 r_1 = el2),
    Fact.pure [] (fun v => v = (Pt ph_b ph_o)),
    Fact.pure [37] (fun v => v = (Fl h0)),
    Fact.pure [23, 36, 38, 10] (fun v => ∃ r_1 : Nat, v = (Fl r_1) ∧ cf .f32 r_1 = pr_al el1 el2 (cf .f32 h0))]) mixed (by kernel_rfl) (by intro _ _ d _ _ h; cases d <;> exact h) ?_
  obtain ⟨w16, hw18⟩ : ∃ w', w' = World.drew w := ⟨_, rfl⟩; rw [← hw18]; have E17 : Ext w w16 := by rw [hw18]; exact Ext.draw _
  clear hw18
  have X19 := Ext.gr (Ext.refl w) E17
  refine RW_d _ rfl (fun v => by dsimp only [List.set]; try rfl) (fun u hu hF => ?_) (fun v20 => ?_)
  · clear hF
    refine doesG_un rfl ?_
    refine (does_load (u := (.func (.func f_al) s_al c_al)) (ev rfl) Try.isAgg63 (Cells.at ((hc_pal.ext (Ext.gr (Ext.refl w) E17)).ext hu) 0 rfl)).mono ?_; rintro _ _ ⟨rfl, rfl⟩
    exact ⟨rfl, Ext.refl _⟩
  refine RW_d _ rfl (fun v => by dsimp only [List.set]; try rfl) (fun u hu hF => ?_) (fun v21 => ?_)
  · clear hF
    refine doesG_un rfl ?_
    refine (does_load (u := (Pt g_b g_o)) (ev rfl) Try.isAgg45 (Cells.at ((hc_pg.ext (Ext.gr (Ext.refl w) E17)).ext hu) 0 rfl)).mono ?_; rintro _ _ ⟨rfl, rfl⟩
    exact ⟨rfl, Ext.refl _⟩
  refine RW_d _ rfl (fun v => by dsimp only [List.set]; try rfl) (fun u hu hF => ?_) (fun v22 => ?_)
  · have h11_ : v21 = (Pt g_b g_o) := hF.1
    clear hF
    refine doesG_un rfl ?_
    obtain rfl := h11_
    refine (does_nilCheck (ev rfl)).mono ?_; rintro _ _ ⟨rfl, rfl⟩
    exact ⟨rfl, Ext.refl _⟩
  refine RW_d _ rfl (fun v => by dsimp only [List.set]; try rfl) (fun u hu hF => ?_) (fun v23 => ?_)
  · have h12_ : v22 = (Pt g_b g_o) := hF.1
    clear hF
    refine doesG_un rfl ?_
    obtain rfl := h12_
    refine (does_fieldAddr (ev rfl) fa33_5).mono ?_; rintro _ _ ⟨rfl, rfl⟩
    exact ⟨rfl, Ext.refl _⟩
  refine RW_d _ rfl (fun v => by dsimp only [List.set]; try rfl) (fun u hu hF => ?_) (fun v24 => ?_)
  · have h13_ : v23 = (Pt g_b (g_o + 7)) := hF.1
    clear hF
    refine doesG_un rfl ?_
    obtain rfl := h13_
    refine (does_load (u := (.slice p11 A_g.vals.length q12)) (ev rfl) Try.isAgg25 (Cells.at ((hc_g.ext (Ext.gr (Ext.refl w) E17)).ext hu) 7 rfl)).mono ?_; rintro _ _ ⟨rfl, rfl⟩
    exact ⟨rfl, Ext.refl _⟩
  refine RW_d _ rfl (fun v => by dsimp only [List.set]; try rfl) (fun u hu hF => ?_) (fun v25 => ?_)
  · clear hF
    refine doesG_un rfl ?_
    refine (does_load (u := (Pt g_b g_o)) (ev rfl) Try.isAgg45 (Cells.at ((hc_pg.ext (Ext.gr (Ext.refl w) E17)).ext hu) 0 rfl)).mono ?_; rintro _ _ ⟨rfl, rfl⟩
    exact ⟨rfl, Ext.refl _⟩
  refine RW_d _ rfl (fun v => by dsimp only [List.set]; try rfl) (fun u hu hF => ?_) (fun v26 => ?_)
  · clear hF
    refine doesG_un rfl ?_
    refine (does_indexAt_run (r := (Pt pf_b pf_o)) (ev rfl) (ev rfl) (fun w => ia64_0 _ _ w)).mono ?_; rintro _ _ ⟨rfl, rfl⟩
    exact ⟨rfl, Ext.refl _⟩
  refine RW_d _ rfl (fun v => by dsimp only [List.set]; try rfl) (fun u hu hF => ?_) (fun v27 => ?_)
  · have h16_ : v26 = (Pt pf_b pf_o) := hF.1
    clear hF
    refine doesG_un rfl ?_
    obtain rfl := h16_
    refine (does_load (u := (Iv f0)) (ev rfl) Try.isAgg2 (Cells.at ((hc_pf.ext (Ext.gr (Ext.refl w) E17)).ext hu) 0 rfl)).mono ?_; rintro _ _ ⟨rfl, rfl⟩
    exact ⟨rfl, Ext.refl _⟩
  refine RW_d _ rfl (fun v => by dsimp only [List.set]; try rfl) (fun u hu hF => ?_) (fun v28 => ?_)
  · clear hF
    refine doesG_un rfl ?_
    refine (does_move (u := (Iv y_)) (ev rfl)).mono ?_; rintro _ _ ⟨rfl, rfl⟩
    exact ⟨rfl, Ext.refl _⟩
  refine RW_d _ rfl (fun v => by dsimp only [List.set]; try rfl) (fun u hu hF => ?_) (fun v29 => ?_)
  · clear hF
    refine doesG_un rfl ?_
    refine (does_move (u := (Iv z_)) (ev rfl)).mono ?_; rintro _ _ ⟨rfl, rfl⟩
    exact ⟨rfl, Ext.refl _⟩
  refine RW_d _ rfl (fun v => by dsimp only [List.set]; try rfl) (fun u hu hF => ?_) (fun v30 => ?_)
  · have h17_ : v27 = (Iv f0) := hF.1
    have h18_ : v28 = (Iv y_) := hF.2.1
    have h19_ : v29 = (Iv z_) := hF.2.2.1
    clear hF
    refine doesG_un rfl ?_
    obtain rfl := h17_
    obtain rfl := h18_
    obtain rfl := h19_
    refine (does_build (parts' := [(0, (Iv f0)), (1, (Iv y_)), (2, (Iv z_))]) (cells := #[(Iv f0), (Iv y_), (Iv z_)]) (evp rfl) (by kernel_rfl)).mono ?_; rintro _ _ ⟨rfl, rfl⟩
    exact ⟨rfl, Ext.refl _⟩
  refine RW_d _ rfl (fun v => by dsimp only [List.set]; try rfl) (fun u hu hF => ?_) (fun v31 => ?_)
  · have h15_ : v25 = (Pt g_b g_o) := hF.1
    have h20_ : v30 = (.agg #[(Iv f0), (Iv y_), (Iv z_)]) := hF.2.1
    clear hF
    refine doesG_un rfl ?_
    obtain rfl := h15_
    obtain rfl := h20_
    refine (does_call (args := #[(Pt g_b g_o), (.agg #[(Iv f0), (Iv y_), (Iv z_)])]) cal41 (evs rfl) (c_impl_Grid_index g_b g_o [(Fl r1), (Fl r3), (Fl r5), (Fl r7), (Iv A_g.x), (Iv A_g.y), (Iv A_g.z), (.slice p11 A_g.vals.length q12)] A_g f0 y_ z_ _ ((hc_g.ext (Ext.gr (Ext.refl w) E17)).ext hu) ⟨r1, r3, r5, r7, (.slice p11 A_g.vals.length q12), rfl, h2, h4, h6, h8, (Sl.ext (Sl.ext hs13 RF.mono (Ext.gr (Ext.refl w) E17)) RF.mono hu)⟩)).mono ?_; rintro v u' ⟨hx, hv⟩
    exact ⟨hv, hx⟩
  refine RW_d _ rfl (fun v => by dsimp only [List.set]; try rfl) (fun u hu hF => ?_) (fun v32 => ?_)
  · have h14_ : v24 = (.slice p11 A_g.vals.length q12) := hF.1
    have h21_ : v31 = (Iv (idxG A_g f0 y_ z_)) := hF.2.1
    clear hF
    refine doesG_un rfl ?_
    obtain rfl := h14_
    obtain rfl := h21_
    refine (does_indexSl (R := RF) (i := idxG A_g f0 y_ z_) (xs := A_g.vals) (e := el1) Try.underlying25 Try.sizeOf22 (ev rfl) (ev rfl) (Sl.ext (Sl.ext hs13 RF.mono (Ext.gr (Ext.refl w) E17)) RF.mono hu) (by omega) hel1).mono ?_; rintro v u' ⟨b, of, cs, hv, hc, hR, hu'⟩; subst hu'
    exact ⟨⟨b, of, cs, hv, hc, hR⟩, Ext.refl _⟩
  refine RW_d _ rfl (fun v => by dsimp only [List.set]; try rfl) (fun u hu hF => ?_) (fun v33 => ?_)
  · have h22_ : PtrR RF u v32 el1 := hF.1
    clear hF
    refine doesG_un rfl ?_
    obtain ⟨b22_, o22_, _, rfl, hc22_, ⟨r22_1, rfl, h22_2⟩⟩ := h22_
    refine (does_load (u := (Fl r22_1)) (ev rfl) Try.isAgg22 (Cells.at hc22_ 0 rfl)).mono ?_; rintro _ _ ⟨rfl, rfl⟩
    exact ⟨⟨r22_1, rfl, (by simp only [h22_2])⟩, Ext.refl _⟩
  refine RW_d _ rfl (fun v => by dsimp only [List.set]; try rfl) (fun u hu hF => ?_) (fun v34 => ?_)
  · clear hF
    refine doesG_un rfl ?_
    refine (does_load (u := (Pt g_b g_o)) (ev rfl) Try.isAgg45 (Cells.at ((hc_pg.ext (Ext.gr (Ext.refl w) E17)).ext hu) 0 rfl)).mono ?_; rintro _ _ ⟨rfl, rfl⟩
    exact ⟨rfl, Ext.refl _⟩
  refine RW_d _ rfl (fun v => by dsimp only [List.set]; try rfl) (fun u hu hF => ?_) (fun v35 => ?_)
  · have h24_ : v34 = (Pt g_b g_o) := hF.1
    clear hF
    refine doesG_un rfl ?_
    obtain rfl := h24_
    refine (does_nilCheck (ev rfl)).mono ?_; rintro _ _ ⟨rfl, rfl⟩
    exact ⟨rfl, Ext.refl _⟩
  refine RW_d _ rfl (fun v => by dsimp only [List.set]; try rfl) (fun u hu hF => ?_) (fun v36 => ?_)
  · have h25_ : v35 = (Pt g_b g_o) := hF.1
    clear hF
    refine doesG_un rfl ?_
    obtain rfl := h25_
    refine (does_fieldAddr (ev rfl) fa33_5).mono ?_; rintro _ _ ⟨rfl, rfl⟩
    exact ⟨rfl, Ext.refl _⟩
  refine RW_d _ rfl (fun v => by dsimp only [List.set]; try rfl) (fun u hu hF => ?_) (fun v37 => ?_)
  · have h26_ : v36 = (Pt g_b (g_o + 7)) := hF.1
    clear hF
    refine doesG_un rfl ?_
    obtain rfl := h26_
    refine (does_load (u := (.slice p11 A_g.vals.length q12)) (ev rfl) Try.isAgg25 (Cells.at ((hc_g.ext (Ext.gr (Ext.refl w) E17)).ext hu) 7 rfl)).mono ?_; rintro _ _ ⟨rfl, rfl⟩
    exact ⟨rfl, Ext.refl _⟩
  refine RW_d _ rfl (fun v => by dsimp only [List.set]; try rfl) (fun u hu hF => ?_) (fun v38 => ?_)
  · clear hF
    refine doesG_un rfl ?_
    refine (does_load (u := (Pt g_b g_o)) (ev rfl) Try.isAgg45 (Cells.at ((hc_pg.ext (Ext.gr (Ext.refl w) E17)).ext hu) 0 rfl)).mono ?_; rintro _ _ ⟨rfl, rfl⟩
    exact ⟨rfl, Ext.refl _⟩
  refine RW_d _ rfl (fun v => by dsimp only [List.set]; try rfl) (fun u hu hF => ?_) (fun v39 => ?_)
  · clear hF
    refine doesG_un rfl ?_
    refine (does_indexAt_run (r := (Pt ps_b ps_o)) (ev rfl) (ev rfl) (fun w => ia64_0 _ _ w)).mono ?_; rintro _ _ ⟨rfl, rfl⟩
    exact ⟨rfl, Ext.refl _⟩
  refine RW_d _ rfl (fun v => by dsimp only [List.set]; try rfl) (fun u hu hF => ?_) (fun v40 => ?_)
  · have h29_ : v39 = (Pt ps_b ps_o) := hF.1
    clear hF
    refine doesG_un rfl ?_
    obtain rfl := h29_
    refine (does_load (u := (Iv s0)) (ev rfl) Try.isAgg2 (Cells.at ((hc_ps.ext (Ext.gr (Ext.refl w) E17)).ext hu) 0 rfl)).mono ?_; rintro _ _ ⟨rfl, rfl⟩
    exact ⟨rfl, Ext.refl _⟩
  refine RW_d _ rfl (fun v => by dsimp only [List.set]; try rfl) (fun u hu hF => ?_) (fun v41 => ?_)
  · clear hF
    refine doesG_un rfl ?_
    refine (does_move (u := (Iv y_)) (ev rfl)).mono ?_; rintro _ _ ⟨rfl, rfl⟩
    exact ⟨rfl, Ext.refl _⟩
  refine RW_d _ rfl (fun v => by dsimp only [List.set]; try rfl) (fun u hu hF => ?_) (fun v42 => ?_)
  · clear hF
    refine doesG_un rfl ?_
    refine (does_move (u := (Iv z_)) (ev rfl)).mono ?_; rintro _ _ ⟨rfl, rfl⟩
    exact ⟨rfl, Ext.refl _⟩
  refine RW_d _ rfl (fun v => by dsimp only [List.set]; try rfl) (fun u hu hF => ?_) (fun v43 => ?_)
  · have h30_ : v40 = (Iv s0) := hF.1
    have h31_ : v41 = (Iv y_) := hF.2.1
    have h32_ : v42 = (Iv z_) := hF.2.2.1
    clear hF
    refine doesG_un rfl ?_
    obtain rfl := h30_
    obtain rfl := h31_
    obtain rfl := h32_
    refine (does_build (parts' := [(0, (Iv s0)), (1, (Iv y_)), (2, (Iv z_))]) (cells := #[(Iv s0), (Iv y_), (Iv z_)]) (evp rfl) (by kernel_rfl)).mono ?_; rintro _ _ ⟨rfl, rfl⟩
    exact ⟨rfl, Ext.refl _⟩
  refine RW_d _ rfl (fun v => by dsimp only [List.set]; try rfl) (fun u hu hF => ?_) (fun v44 => ?_)
  · have h28_ : v38 = (Pt g_b g_o) := hF.1
    have h33_ : v43 = (.agg #[(Iv s0), (Iv y_), (Iv z_)]) := hF.2.1
    clear hF
    refine doesG_un rfl ?_
    obtain rfl := h28_
    obtain rfl := h33_
    refine (does_call (args := #[(Pt g_b g_o), (.agg #[(Iv s0), (Iv y_), (Iv z_)])]) cal41 (evs rfl) (c_impl_Grid_index g_b g_o [(Fl r1), (Fl r3), (Fl r5), (Fl r7), (Iv A_g.x), (Iv A_g.y), (Iv A_g.z), (.slice p11 A_g.vals.length q12)] A_g s0 y_ z_ _ ((hc_g.ext (Ext.gr (Ext.refl w) E17)).ext hu) ⟨r1, r3, r5, r7, (.slice p11 A_g.vals.length q12), rfl, h2, h4, h6, h8, (Sl.ext (Sl.ext hs13 RF.mono (Ext.gr (Ext.refl w) E17)) RF.mono hu)⟩)).mono ?_; rintro v u' ⟨hx, hv⟩
    exact ⟨hv, hx⟩
  refine RW_d _ rfl (fun v => by dsimp only [List.set]; try rfl) (fun u hu hF => ?_) (fun v45 => ?_)
  · have h27_ : v37 = (.slice p11 A_g.vals.length q12) := hF.1
    have h34_ : v44 = (Iv (idxG A_g s0 y_ z_)) := hF.2.1
    clear hF
    refine doesG_un rfl ?_
    obtain rfl := h27_
    obtain rfl := h34_
    refine (does_indexSl (R := RF) (i := idxG A_g s0 y_ z_) (xs := A_g.vals) (e := el2) Try.underlying25 Try.sizeOf22 (ev rfl) (ev rfl) (Sl.ext (Sl.ext hs13 RF.mono (Ext.gr (Ext.refl w) E17)) RF.mono hu) (by omega) hel2).mono ?_; rintro v u' ⟨b, of, cs, hv, hc, hR, hu'⟩; subst hu'
    exact ⟨⟨b, of, cs, hv, hc, hR⟩, Ext.refl _⟩
  refine RW_d _ rfl (fun v => by dsimp only [List.set]; try rfl) (fun u hu hF => ?_) (fun v46 => ?_)
  · have h35_ : PtrR RF u v45 el2 := hF.1
    clear hF
    refine doesG_un rfl ?_
    obtain ⟨b35_, o35_, _, rfl, hc35_, ⟨r35_1, rfl, h35_2⟩⟩ := h35_
    refine (does_load (u := (Fl r35_1)) (ev rfl) Try.isAgg22 (Cells.at hc35_ 0 rfl)).mono ?_; rintro _ _ ⟨rfl, rfl⟩
    exact ⟨⟨r35_1, rfl, (by simp only [h35_2])⟩, Ext.refl _⟩
  refine RW_d _ rfl (fun v => by dsimp only [List.set]; try rfl) (fun u hu hF => ?_) (fun v47 => ?_)
  · clear hF
    refine doesG_un rfl ?_
    refine (does_indexAt_run (r := (Pt ph_b ph_o)) (ev rfl) (ev rfl) (fun w => ia54_0 _ _ w)).mono ?_; rintro _ _ ⟨rfl, rfl⟩
    exact ⟨rfl, Ext.refl _⟩
  refine RW_d _ rfl (fun v => by dsimp only [List.set]; try rfl) (fun u hu hF => ?_) (fun v48 => ?_)
  · have h37_ : v47 = (Pt ph_b ph_o) := hF.1
    clear hF
    refine doesG_un rfl ?_
    obtain rfl := h37_
    refine (does_load (u := (Fl h0)) (ev rfl) Try.isAgg22 (Cells.at ((hc_ph.ext (Ext.gr (Ext.refl w) E17)).ext hu) 0 rfl)).mono ?_; rintro _ _ ⟨rfl, rfl⟩
    exact ⟨rfl, Ext.refl _⟩
  refine RW_d _ rfl (fun v => by dsimp only [List.set]; try rfl) (fun u hu hF => ?_) (fun v49 => ?_)
  · have h23_ : ∃ r_1 : Nat, v33 = (Fl r_1) ∧ cf .f32 r_1 = el1 := hF.1
    have h36_ : ∃ r_1 : Nat, v46 = (Fl r_1) ∧ cf .f32 r_1 = el2 := hF.2.1
    have h38_ : v48 = (Fl h0) := hF.2.2.1
    have h10_ : v20 = (.func (.func f_al) s_al c_al) := hF.2.2.2.1
    clear hF
    refine doesG_un rfl ?_
    obtain ⟨r23_1, rfl, h23_2⟩ := h23_
    obtain ⟨r36_1, rfl, h36_2⟩ := h36_
    obtain rfl := h38_
    obtain rfl := h10_
    refine (does_callf (args := #[(Fl r23_1), (Fl r36_1), (Fl h0)]) (ev rfl) hcal_al (evs rfl) (hg_al r23_1 r36_1 h0 _ (Ext.gr (Ext.gr (Ext.refl w) E17) hu))).mono ?_; rintro v u' ⟨hx, ⟨rn1, hv, k0⟩⟩
    exact ⟨⟨rn1, hv.trans (by simp only [h23_2, h36_2]), (by simp only [k0, h23_2, h36_2])⟩, hx⟩
  refine RW_fin ?_; intro w50 E51 hP52
  obtain ⟨⟨⟨⟨⟨⟨⟨⟨⟨⟨⟨⟨⟨⟨⟨⟨⟨⟨⟨⟨⟨⟨⟨⟨⟨⟨⟨⟨⟨⟨-, -⟩, -⟩, -⟩, -⟩, -⟩, -⟩, -⟩, -⟩, -⟩, -⟩, -⟩, -⟩, -⟩, -⟩, -⟩, -⟩, -⟩, -⟩, -⟩, -⟩, -⟩, -⟩, -⟩, -⟩, -⟩, -⟩, -⟩, -⟩, -⟩, q53⟩ := hP52
  have X54 := Ext.gr X19 E51
  have q53 : ∃ r_1 : Nat, v49 = (Fl r_1) ∧ cf .f32 r_1 = pr_al el1 el2 (cf .f32 h0) := q53
  obtain ⟨r55, rfl, h56⟩ := q53
  show wpList _ _ _ _ (fr [(Iv y_), (Iv z_), (Pt pal_b pal_o), (Pt pg_b pg_o), (Pt pf_b pf_o), (Pt ps_b ps_o), (Pt ph_b ph_o), Ud, Ud, (Fl 0), v20, v21, v22, v23, v24, v25, v26, v27, v28, v29, v30, v31, v32, v33, v34, v35, v36, v37, v38, v39, v40, v41, v42, v43, v44, v45, v46, v47, v48, (Fl r55)]) _
  refine q_is rfl rfl (does_assign (u := (Fl r55)) (ev rfl)) (by dsimp only [List.set]; try rfl) ?_
  refine wpList_nil (hK15 _ _ ?_)
  refine wp_ret ?_
  refine ret_val (v := (Fl r55)) (res_T rfl (slot rfl)) X54 ?_
  have x57 : cf .f32 r55 = pr_al (vat A_g f0 y_ z_) (vat A_g s0 y_ z_) (cf .f32 h0) := by simp only [h2, h4, h6, h8, hel1, hel2, h56, vat_of hel1, vat_of hel2]
  exact ⟨r55, rfl, x57⟩

/- (*impl.Grid).between$3 -/
theorem c_impl_Grid_between_3 (z_ : Int) (pal_b : Nat) (pal_o : Nat) (al : Value) (pr_al : Nat → Nat → Nat → Nat) (prw_b : Nat) (prw_o : Nat) (rw : Value) (D_rw : Int → Int → Prop) (pr_rw : Int → Int → Nat) (pf_b : Nat) (pf_o : Nat) (f0 : Int) (f1 : Int) (f2 : Int) (ps_b : Nat) (ps_o : Nat) (s0 : Int) (s1 : Int) (s2 : Int) (ph_b : Nat) (ph_o : Nat) (h0 : Nat) (h1 : Nat) (h2 : Nat) (w : World) (hv_al : ∃ fi fst cap, al = .func (.func fi) fst cap ∧ (∀ args w, (callFunc fi args).run Try.prog w = .ok (.enter fi args) w) ∧ ∀ (r t q : Nat) u, Ext w u → Gives Try.prog fi (fst ++ #[Fl r, Fl t, Fl q] ++ cap) u (fun v _ => ∃ o, v = Fl o ∧ cf .f32 o = pr_al (cf .f32 r) (cf .f32 t) (cf .f32 q))) (hc_pal : Cells w pal_b pal_o [al]) (hv_rw : ∃ fi fst cap, rw = .func (.func fi) fst cap ∧ (∀ args w, (callFunc fi args).run Try.prog w = .ok (.enter fi args) w) ∧ ∀ (y z : Int) u, D_rw y z → Ext w u → Gives Try.prog fi (fst ++ #[Iv y, Iv z] ++ cap) u (fun v _ => ∃ o, v = Fl o ∧ cf .f32 o = pr_rw y z)) (hc_prw : Cells w prw_b prw_o [rw]) (hc_pf : Cells w pf_b pf_o [(Iv f0), (Iv f1), (Iv f2)]) (hc_ps : Cells w ps_b ps_o [(Iv s0), (Iv s1), (Iv s2)]) (hc_ph : Cells w ph_b ph_o [(Fl h0), (Fl h1), (Fl h2)]) (hd0 : D_rw f1 z_) (hd1 : D_rw s1 z_) : Gives Try.prog 42 #[(Iv z_), (Pt pal_b pal_o), (Pt prw_b prw_o), (Pt pf_b pf_o), (Pt ps_b ps_o), (Pt ph_b ph_o)] w (fun v w' => ∃ r_1 : Nat, v = (Fl r_1) ∧ cf .f32 r_1 = pr_al (pr_rw f1 z_) (pr_rw s1 z_) (cf .f32 h1)) := by
  obtain ⟨f_al, s_al, c_al, rfl, hcal_al, hg_al⟩ := hv_al
  obtain ⟨f_rw, s_rw, c_rw, rfl, hcal_rw, hg_rw⟩ := hv_rw
  refine enter [(Iv z_), (Pt pal_b pal_o), (Pt prw_b prw_o), (Pt pf_b pf_o), (Pt ps_b ps_o), (Pt ph_b ph_o), Ud, Ud, Ud, Ud, Ud, Ud, Ud, Ud, Ud, Ud, Ud, Ud, Ud, Ud, Ud, Ud] Try.func42 rfl Try.ntmps42 rfl ?_
  refine wp_seq_k fun K1 hK1 => ?_
  refine wp_region_lit ?_
  refine q_is (l' := [(Iv z_), (Pt pal_b pal_o), (Pt prw_b prw_o), (Pt pf_b pf_o), (Pt ps_b ps_o), (Pt ph_b ph_o), Ud, (Fl 0), Ud, Ud, Ud, Ud, Ud, Ud, Ud, Ud, Ud, Ud, Ud, Ud, Ud, Ud]) rfl rfl (does_assign (u := (Fl 0)) (ev rfl)) rfl ?_
  refine wpList_nil (hK1 _ _ ?_)
  refine wp_seq_k fun K2 hK2 => ?_
  refine region_draw (
    [Fact.pure [] (fun v => v = (.func (.func f_al) s_al c_al)),
    Fact.pure [] (fun v => v = (.func (.func f_rw) s_rw c_rw)),
    Fact.pure [] (fun v => v = (Pt pf_b (pf_o + 1))),
    Fact.pure [10] (fun v => v = (Iv f1)),
    Fact.pure [] (fun v => v = (Iv z_)),
    Fact.pure [11, 12, 9] (fun v => ∃ r_1 : Nat, v = (Fl r_1) ∧ cf .f32 r_1 = pr_rw f1 z_),
    Fact.pure [] (fun v => v = (.func (.func f_rw) s_rw c_rw)),
    Fact.pure [] (fun v => v = (Pt ps_b (ps_o + 1))),
    Fact.pure [15] (fun v => v = (Iv s1)),
    Fact.pure [] (fun v => v = (Iv z_)),
    Fact.pure [16, 17, 14] (fun v => ∃ r_1 : Nat, v = (Fl r_1) ∧ cf .f32 r_1 = pr_rw s1 z_),
    Fact.pure [] (fun v => v = (Pt ph_b (ph_o + 1))),
    Fact.pure [19] (fun v => v = (Fl h1)),
    Fact.pure [13, 18, 20, 8] (fun v => ∃ r_1 : Nat, v = (Fl r_1) ∧ cf .f32 r_1 = pr_al (pr_rw f1 z_) (pr_rw s1 z_) (cf .f32 h1))]) mixed (by kernel_rfl) (by intro _ _ d _ _ h; cases d <;> exact h) ?_
  obtain ⟨w3, hw5⟩ : ∃ w', w' = World.drew w := ⟨_, rfl⟩; rw [← hw5]; have E4 : Ext w w3 := by rw [hw5]; exact Ext.draw _
  clear hw5
  have X6 := Ext.gr (Ext.refl w) E4
  refine RW_d (fun v7 => [(Iv z_), (Pt pal_b pal_o), (Pt prw_b prw_o), (Pt pf_b pf_o), (Pt ps_b ps_o), (Pt ph_b ph_o), Ud, (Fl 0), v7, Ud, Ud, Ud, Ud, Ud, Ud, Ud, Ud, Ud, Ud, Ud, Ud, Ud]) rfl (fun _ => rfl) (fun u hu hF => ?_) (fun v7 => ?_)
  · clear hF
    refine doesG_un rfl ?_
    refine (does_load (u := (.func (.func f_al) s_al c_al)) (ev rfl) Try.isAgg63 (Cells.at ((hc_pal.ext (Ext.gr (Ext.refl w) E4)).ext hu) 0 rfl)).mono ?_; rintro _ _ ⟨rfl, rfl⟩
    exact ⟨rfl, Ext.refl _⟩
  refine RW_d (fun v8 => [(Iv z_), (Pt pal_b pal_o), (Pt prw_b prw_o), (Pt pf_b pf_o), (Pt ps_b ps_o), (Pt ph_b ph_o), Ud, (Fl 0), v7, v8, Ud, Ud, Ud, Ud, Ud, Ud, Ud, Ud, Ud, Ud, Ud, Ud]) rfl (fun _ => rfl) (fun u hu hF => ?_) (fun v8 => ?_)
  · clear hF
    refine doesG_un rfl ?_
    refine (does_load (u := (.func (.func f_rw) s_rw c_rw)) (ev rfl) Try.isAgg70 (Cells.at ((hc_prw.ext (Ext.gr (Ext.refl w) E4)).ext hu) 0 rfl)).mono ?_; rintro _ _ ⟨rfl, rfl⟩
    exact ⟨rfl, Ext.refl _⟩
  refine RW_d (fun v9 => [(Iv z_), (Pt pal_b pal_o), (Pt prw_b prw_o), (Pt pf_b pf_o), (Pt ps_b ps_o), (Pt ph_b ph_o), Ud, (Fl 0), v7, v8, v9, Ud, Ud, Ud, Ud, Ud, Ud, Ud, Ud, Ud, Ud, Ud]) rfl (fun _ => rfl) (fun u hu hF => ?_) (fun v9 => ?_)
  · clear hF
    refine doesG_un rfl ?_
    refine (does_indexAt_run (r := (Pt pf_b (pf_o + 1))) (ev rfl) (ev rfl) (fun w => ia64_1 _ _ w)).mono ?_; rintro _ _ ⟨rfl, rfl⟩
    exact ⟨rfl, Ext.refl _⟩
  refine RW_d (fun v10 => [(Iv z_), (Pt pal_b pal_o), (Pt prw_b prw_o), (Pt pf_b pf_o), (Pt ps_b ps_o), (Pt ph_b ph_o), Ud, (Fl 0), v7, v8, v9, v10, Ud, Ud, Ud, Ud, Ud, Ud, Ud, Ud, Ud, Ud]) rfl (fun _ => rfl) (fun u hu hF => ?_) (fun v10 => ?_)
  · have h10_ : v9 = (Pt pf_b (pf_o + 1)) := hF.1
    clear hF
    refine doesG_un rfl ?_
    obtain rfl := h10_
    refine (does_load (u := (Iv f1)) (ev rfl) Try.isAgg2 (Cells.at ((hc_pf.ext (Ext.gr (Ext.refl w) E4)).ext hu) 1 rfl)).mono ?_; rintro _ _ ⟨rfl, rfl⟩
    exact ⟨rfl, Ext.refl _⟩
  refine RW_d (fun v11 => [(Iv z_), (Pt pal_b pal_o), (Pt prw_b prw_o), (Pt pf_b pf_o), (Pt ps_b ps_o), (Pt ph_b ph_o), Ud, (Fl 0), v7, v8, v9, v10, v11, Ud, Ud, Ud, Ud, Ud, Ud, Ud, Ud, Ud]) rfl (fun _ => rfl) (fun u hu hF => ?_) (fun v11 => ?_)
  · clear hF
    refine doesG_un rfl ?_
    refine (does_move (u := (Iv z_)) (ev rfl)).mono ?_; rintro _ _ ⟨rfl, rfl⟩
    exact ⟨rfl, Ext.refl _⟩
  refine RW_d (fun v12 => [(Iv z_), (Pt pal_b pal_o), (Pt prw_b prw_o), (Pt pf_b pf_o), (Pt ps_b ps_o), (Pt ph_b ph_o), Ud, (Fl 0), v7, v8, v9, v10, v11, v12, Ud, Ud, Ud, Ud, Ud, Ud, Ud, Ud]) rfl (fun _ => rfl) (fun u hu hF => ?_) (fun v12 => ?_)
  · have h11_ : v10 = (Iv f1) := hF.1
    have h12_ : v11 = (Iv z_) := hF.2.1
    have h9_ : v8 = (.func (.func f_rw) s_rw c_rw) := hF.2.2.1
    clear hF
    refine doesG_un rfl ?_
    obtain rfl := h11_
    obtain rfl := h12_
    obtain rfl := h9_
    refine (does_callf (args := #[(Iv f1), (Iv z_)]) (ev rfl) hcal_rw (evs rfl) (hg_rw f1 z_ _ (by exact hd0) (Ext.gr (Ext.gr (Ext.refl w) E4) hu))).mono ?_; rintro v u' ⟨hx, ⟨rn1, hv, k0⟩⟩
    exact ⟨⟨rn1, hv, (by simp only [k0])⟩, hx⟩
  refine RW_d (fun v13 => [(Iv z_), (Pt pal_b pal_o), (Pt prw_b prw_o), (Pt pf_b pf_o), (Pt ps_b ps_o), (Pt ph_b ph_o), Ud, (Fl 0), v7, v8, v9, v10, v11, v12, v13, Ud, Ud, Ud, Ud, Ud, Ud, Ud]) rfl (fun _ => rfl) (fun u hu hF => ?_) (fun v13 => ?_)
  · clear hF
    refine doesG_un rfl ?_
    refine (does_load (u := (.func (.func f_rw) s_rw c_rw)) (ev rfl) Try.isAgg70 (Cells.at ((hc_prw.ext (Ext.gr (Ext.refl w) E4)).ext hu) 0 rfl)).mono ?_; rintro _ _ ⟨rfl, rfl⟩
    exact ⟨rfl, Ext.refl _⟩
  refine RW_d (fun v14 => [(Iv z_), (Pt pal_b pal_o), (Pt prw_b prw_o), (Pt pf_b pf_o), (Pt ps_b ps_o), (Pt ph_b ph_o), Ud, (Fl 0), v7, v8, v9, v10, v11, v12, v13, v14, Ud, Ud, Ud, Ud, Ud, Ud]) rfl (fun _ => rfl) (fun u hu hF => ?_) (fun v14 => ?_)
  · clear hF
    refine doesG_un rfl ?_
    refine (does_indexAt_run (r := (Pt ps_b (ps_o + 1))) (ev rfl) (ev rfl) (fun w => ia64_1 _ _ w)).mono ?_; rintro _ _ ⟨rfl, rfl⟩
    exact ⟨rfl, Ext.refl _⟩
  refine RW_d (fun v15 => [(Iv z_), (Pt pal_b pal_o), (Pt prw_b prw_o), (Pt pf_b pf_o), (Pt ps_b ps_o), (Pt ph_b ph_o), Ud, (Fl 0), v7, v8, v9, v10, v11, v12, v13, v14, v15, Ud, Ud, Ud, Ud, Ud]) rfl (fun _ => rfl) (fun u hu hF => ?_) (fun v15 => ?_)
  · have h15_ : v14 = (Pt ps_b (ps_o + 1)) := hF.1
    clear hF
    refine doesG_un rfl ?_
    obtain rfl := h15_
    refine (does_load (u := (Iv s1)) (ev rfl) Try.isAgg2 (Cells.at ((hc_ps.ext (Ext.gr (Ext.refl w) E4)).ext hu) 1 rfl)).mono ?_; rintro _ _ ⟨rfl, rfl⟩
    exact ⟨rfl, Ext.refl _⟩
  refine RW_d (fun v16 => [(Iv z_), (Pt pal_b pal_o), (Pt prw_b prw_o), (Pt pf_b pf_o), (Pt ps_b ps_o), (Pt ph_b ph_o), Ud, (Fl 0), v7, v8, v9, v10, v11, v12, v13, v14, v15, v16, Ud, Ud, Ud, Ud]) rfl (fun _ => rfl) (fun u hu hF => ?_) (fun v16 => ?_)
  · clear hF
    refine doesG_un rfl ?_
    refine (does_move (u := (Iv z_)) (ev rfl)).mono ?_; rintro _ _ ⟨rfl, rfl⟩
    exact ⟨rfl, Ext.refl _⟩
  refine RW_d (fun v17 => [(Iv z_), (Pt pal_b pal_o), (Pt prw_b prw_o), (Pt pf_b pf_o), (Pt ps_b ps_o), (Pt ph_b ph_o), Ud, (Fl 0), v7, v8, v9, v10, v11, v12, v13, v14, v15, v16, v17, Ud, Ud, Ud]) rfl (fun _ => rfl) (fun u hu hF => ?_) (fun v17 => ?_)
  · have h16_ : v15 = (Iv s1) := hF.1
    have h17_ : v16 = (Iv z_) := hF.2.1
    have h14_ : v13 = (.func (.func f_rw) s_rw c_rw) := hF.2.2.1
    clear hF
    refine doesG_un rfl ?_
    obtain rfl := h16_
    obtain rfl := h17_
    obtain rfl := h14_
    refine (does_callf (args := #[(Iv s1), (Iv z_)]) (ev rfl) hcal_rw (evs rfl) (hg_rw s1 z_ _ (by exact hd1) (Ext.gr (Ext.gr (Ext.refl w) E4) hu))).mono ?_; rintro v u' ⟨hx, ⟨rn1, hv, k0⟩⟩
    exact ⟨⟨rn1, hv, (by simp only [k0])⟩, hx⟩
  refine RW_d (fun v18 => [(Iv z_), (Pt pal_b pal_o), (Pt prw_b prw_o), (Pt pf_b pf_o), (Pt ps_b ps_o), (Pt ph_b ph_o), Ud, (Fl 0), v7, v8, v9, v10, v11, v12, v13, v14, v15, v16, v17, v18, Ud, Ud]) rfl (fun _ => rfl) (fun u hu hF => ?_) (fun v18 => ?_)
  · clear hF
    refine doesG_un rfl ?_
    refine (does_indexAt_run (r := (Pt ph_b (ph_o + 1))) (ev rfl) (ev rfl) (fun w => ia54_1 _ _ w)).mono ?_; rintro _ _ ⟨rfl, rfl⟩
    exact ⟨rfl, Ext.refl _⟩
  refine RW_d (fun v19 => [(Iv z_), (Pt pal_b pal_o), (Pt prw_b prw_o), (Pt pf_b pf_o), (Pt ps_b ps_o), (Pt ph_b ph_o), Ud, (Fl 0), v7, v8, v9, v10, v11, v12, v13, v14, v15, v16, v17, v18, v19, Ud]) rfl (fun _ => rfl) (fun u hu hF => ?_) (fun v19 => ?_)
  · have h19_ : v18 = (Pt ph_b (ph_o + 1)) := hF.1
    clear hF
    refine doesG_un rfl ?_
    obtain rfl := h19_
    refine (does_load (u := (Fl h1)) (ev rfl) Try.isAgg22 (Cells.at ((hc_ph.ext (Ext.gr (Ext.refl w) E4)).ext hu) 1 rfl)).mono ?_; rintro _ _ ⟨rfl, rfl⟩
    exact ⟨rfl, Ext.refl _⟩
  refine RW_d (fun v20 => [(Iv z_), (Pt pal_b pal_o), (Pt prw_b prw_o), (Pt pf_b pf_o), (Pt ps_b ps_o), (Pt ph_b ph_o), Ud, (Fl 0), v7, v8, v9, v10, v11, v12, v13, v14, v15, v16, v17, v18, v19, v20]) rfl (fun _ => rfl) (fun u hu hF => ?_) (fun v20 => ?_)
  · have h13_ : ∃ r_1 : Nat, v12 = (Fl r_1) ∧ cf .f32 r_1 = pr_rw f1 z_ := hF.1
    have h18_ : ∃ r_1 : Nat, v17 = (Fl r_1) ∧ cf .f32 r_1 = pr_rw s1 z_ := hF.2.1
    have h20_ : v19 = (Fl h1) := hF.2.2.1
    have h8_ : v7 = (.func (.func f_al) s_al c_al) := hF.2.2.2.1
    clear hF
    refine doesG_un rfl ?_
    obtain ⟨r13_1, rfl, h13_2⟩ := h13_
    obtain ⟨r18_1, rfl, h18_2⟩ := h18_
    obtain rfl := h20_
    obtain rfl := h8_
    refine (does_callf (args := #[(Fl r13_1), (Fl r18_1), (Fl h1)]) (ev rfl) hcal_al (evs rfl) (hg_al r13_1 r18_1 h1 _ (Ext.gr (Ext.gr (Ext.refl w) E4) hu))).mono ?_; rintro v u' ⟨hx, ⟨rn1, hv, k0⟩⟩
    exact ⟨⟨rn1, hv.trans (by simp only [h13_2, h18_2]), (by simp only [k0, h13_2, h18_2])⟩, hx⟩
  refine RW_fin ?_; intro w21 E22 hP23
  obtain ⟨⟨⟨⟨⟨⟨⟨⟨⟨⟨⟨⟨⟨⟨-, -⟩, -⟩, -⟩, -⟩, -⟩, -⟩, -⟩, -⟩, -⟩, -⟩, -⟩, -⟩, -⟩, q24⟩ := hP23
  have X25 := Ext.gr X6 E22
  have q24 : ∃ r_1 : Nat, v20 = (Fl r_1) ∧ cf .f32 r_1 = pr_al (pr_rw f1 z_) (pr_rw s1 z_) (cf .f32 h1) := q24
  obtain ⟨r26, rfl, h27⟩ := q24
  show wpList _ _ _ _ (fr [(Iv z_), (Pt pal_b pal_o), (Pt prw_b prw_o), (Pt pf_b pf_o), (Pt ps_b ps_o), (Pt ph_b ph_o), Ud, (Fl 0), v7, v8, v9, v10, v11, v12, v13, v14, v15, v16, v17, v18, v19, (Fl r26)]) _
  refine q_is (l' := [(Iv z_), (Pt pal_b pal_o), (Pt prw_b prw_o), (Pt pf_b pf_o), (Pt ps_b ps_o), (Pt ph_b ph_o), Ud, (Fl r26), v7, v8, v9, v10, v11, v12, v13, v14, v15, v16, v17, v18, v19, (Fl r26)]) rfl rfl (does_assign (u := (Fl r26)) (ev rfl)) rfl ?_
  refine wpList_nil (hK2 _ _ ?_)
  refine wp_ret ?_
  refine ret_val (v := (Fl r26)) (res_T rfl (slot rfl)) X25 ?_
  have x28 : cf .f32 r26 = pr_al (pr_rw f1 z_) (pr_rw s1 z_) (cf .f32 h1) := by first | with_reducible rfl | (simp only [h27]; done) | (simp [h27]; done) | rfl
  exact ⟨r26, rfl, x28⟩

/- (*impl.Grid).between -/
theorem c_impl_Grid_between (g_b : Nat) (g_o : Nat) (g : List Value) (A_g : GridT) (p : List Value) (A_p : V3) (w : World) (hc_g : Cells w g_b g_o g) (hv_g : RGridT w A_g g) (hv_p : RV3 w A_p p) (hgr : isGrid A_g = true) (hfp : finV A_p = true) : Gives Try.prog 22 #[(Pt g_b g_o), (.agg p.toArray)] w (fun v w' => ∃ r_1 : Nat, v = (Fl r_1) ∧ cf .f32 r_1 = readG A_g A_p) := by
  obtain ⟨r1, r3, r5, r7, y9, rfl, h2, h4, h6, h8, h10⟩ := hv_g
  obtain ⟨r11, r13, r15, rfl, h12, h14, h16⟩ := hv_p
  have hs19 := h10; have hs19l := Sl.len h10; obtain ⟨p17, q18, rfl⟩ := Sl.shape h10
  have hgf := grid_fin hgr
  have hgc := isGrid_cnt hgr
  have hpf := finV_iff.1 hfp
  have hix := cellU_in hpf.1 hgf.1.1 hgf.2.1 hgf.2.2 ⟨hgc.1.1, hgc.1.2⟩
  have hiy := cellU_in hpf.2.1 hgf.1.2.1 hgf.2.1 hgf.2.2 ⟨hgc.2.1.1, hgc.2.1.2⟩
  have hiz := cellU_in hpf.2.2 hgf.1.2.2 hgf.2.1 hgf.2.2 ⟨hgc.2.2.1.1, hgc.2.2.1.2⟩
  have hbx := cellI_bd (p := A_p.x) (low := A_g.low.x) (st := A_g.step) (n := A_g.x) (by omega)
  have hby := cellI_bd (p := A_p.y) (low := A_g.low.y) (st := A_g.step) (n := A_g.y) (by omega)
  have hbz := cellI_bd (p := A_p.z) (low := A_g.low.z) (st := A_g.step) (n := A_g.z) (by omega)
  have hid0 := idx_in (x := cellI A_p.x A_g.low.x A_g.step A_g.x) (y := cellI A_p.y A_g.low.y A_g.step A_g.y) (z := cellI A_p.z A_g.low.z A_g.step A_g.z) hgr (by omega) (by omega) (by omega)
  have hid1 := idx_in (x := cellI A_p.x A_g.low.x A_g.step A_g.x) (y := cellI A_p.y A_g.low.y A_g.step A_g.y) (z := min (cellI A_p.z A_g.low.z A_g.step A_g.z + 1) (A_g.z - 1)) hgr (by omega) (by omega) (by omega)
  have hid2 := idx_in (x := cellI A_p.x A_g.low.x A_g.step A_g.x) (y := min (cellI A_p.y A_g.low.y A_g.step A_g.y + 1) (A_g.y - 1)) (z := cellI A_p.z A_g.low.z A_g.step A_g.z) hgr (by omega) (by omega) (by omega)
  have hid3 := idx_in (x := cellI A_p.x A_g.low.x A_g.step A_g.x) (y := min (cellI A_p.y A_g.low.y A_g.step A_g.y + 1) (A_g.y - 1)) (z := min (cellI A_p.z A_g.low.z A_g.step A_g.z + 1) (A_g.z - 1)) hgr (by omega) (by omega) (by omega)
  have hid4 := idx_in (x := min (cellI A_p.x A_g.low.x A_g.step A_g.x + 1) (A_g.x - 1)) (y := cellI A_p.y A_g.low.y A_g.step A_g.y) (z := cellI A_p.z A_g.low.z A_g.step A_g.z) hgr (by omega) (by omega) (by omega)
  have hid5 := idx_in (x := min (cellI A_p.x A_g.low.x A_g.step A_g.x + 1) (A_g.x - 1)) (y := cellI A_p.y A_g.low.y A_g.step A_g.y) (z := min (cellI A_p.z A_g.low.z A_g.step A_g.z + 1) (A_g.z - 1)) hgr (by omega) (by omega) (by omega)
  have hid6 := idx_in (x := min (cellI A_p.x A_g.low.x A_g.step A_g.x + 1) (A_g.x - 1)) (y := min (cellI A_p.y A_g.low.y A_g.step A_g.y + 1) (A_g.y - 1)) (z := cellI A_p.z A_g.low.z A_g.step A_g.z) hgr (by omega) (by omega) (by omega)
  have hid7 := idx_in (x := min (cellI A_p.x A_g.low.x A_g.step A_g.x + 1) (A_g.x - 1)) (y := min (cellI A_p.y A_g.low.y A_g.step A_g.y + 1) (A_g.y - 1)) (z := min (cellI A_p.z A_g.low.z A_g.step A_g.z + 1) (A_g.z - 1)) hgr (by omega) (by omega) (by omega)
  refine enter [(Pt g_b g_o), (.agg #[(Fl r11), (Fl r13), (Fl r15)]), Ud, Ud, Ud, Ud, Ud, Ud, Ud, Ud, Ud, Ud, Ud, Ud, Ud, Ud, Ud, Ud, Ud, Ud, Ud, Ud, Ud, Ud, Ud, Ud, Ud, Ud, Ud, Ud, Ud, Ud, Ud, Ud, Ud, Ud, Ud, Ud, Ud, Ud, Ud, Ud, Ud, Ud, Ud, Ud, Ud, Ud, Ud, Ud, Ud, Ud, Ud, Ud, Ud, Ud, Ud, Ud, Ud, Ud, Ud, Ud, Ud, Ud, Ud, Ud] Try.func22 rfl Try.ntmps22 rfl ?_
  refine wp_seq_k fun K20 hK20 => ?_
  refine wp_region_lit ?_
  refine seqd rfl rfl (does_box (u := (Pt g_b g_o)) (ev rfl)) ?_; rintro _ w25 ⟨b21, rfl, hb22, hB23, E24⟩
  have n26 : g_b < b21 := Nat.lt_of_lt_of_le (cell_lt (Cells.at hc_g 0 rfl)) hb22
  have g27 : w.heap.size ≤ b21 := Nat.le_trans (Below.size (Ext.refl w)) hb22
  change Blk _ _ [(Pt g_b g_o)] at hB23
  have X28 := Ext.gr (Ext.refl w) E24
  show wpList _ _ _ _ (fr [(Pt g_b g_o), (.agg #[(Fl r11), (Fl r13), (Fl r15)]), (Pt b21 0), Ud, Ud, Ud, Ud, Ud, Ud, Ud, Ud, Ud, Ud, Ud, Ud, Ud, Ud, Ud, Ud, Ud, Ud, Ud, Ud, Ud, Ud, Ud, Ud, Ud, Ud, Ud, Ud, Ud, Ud, Ud, Ud, Ud, Ud, Ud, Ud, Ud, Ud, Ud, Ud, Ud, Ud, Ud, Ud, Ud, Ud, Ud, Ud, Ud, Ud, Ud, Ud, Ud, Ud, Ud, Ud, Ud, Ud, Ud, Ud, Ud, Ud, Ud]) _
  refine seqd rfl rfl (does_box (u := (.agg #[(Fl r11), (Fl r13), (Fl r15)])) (ev rfl)) ?_; rintro _ w33 ⟨b29, rfl, hb30, hB31, E32⟩
  have n34 : g_b < b29 := Nat.lt_of_lt_of_le (cell_lt (Cells.at (hc_g.ext X28) 0 rfl)) hb30
  have n35 : b21 < b29 := Nat.lt_of_lt_of_le (Blk.lt hB23) hb30
  have g36 : w.heap.size ≤ b29 := Nat.le_trans (Below.size X28) hb30
  change Blk _ _ [(Fl r11), (Fl r13), (Fl r15)] at hB31
  have X37 := Ext.gr X28 E32
  show wpList _ _ _ _ (fr [(Pt g_b g_o), (.agg #[(Fl r11), (Fl r13), (Fl r15)]), (Pt b21 0), (Pt b29 0), Ud, Ud, Ud, Ud, Ud, Ud, Ud, Ud, Ud, Ud, Ud, Ud, Ud, Ud, Ud, Ud, Ud, Ud, Ud, Ud, Ud, Ud, Ud, Ud, Ud, Ud, Ud, Ud, Ud, Ud, Ud, Ud, Ud, Ud, Ud, Ud, Ud, Ud, Ud, Ud, Ud, Ud, Ud, Ud, Ud, Ud, Ud, Ud, Ud, Ud, Ud, Ud, Ud, Ud, Ud, Ud, Ud, Ud, Ud, Ud, Ud, Ud]) _
  refine q_is rfl rfl (does_assign (u := (Fl 0)) (ev rfl)) (by dsimp only [List.set]; try rfl) ?_
  refine wpList_nil (hK20 _ _ ?_)
  refine wp_seq_k fun K38 hK38 => ?_
  refine wp_region_lit ?_
  refine q_is rfl rfl (does_build (parts' := []) (cells := #[(Iv 0), (Iv 0), (Iv 0)]) (evp rfl) (by kernel_rfl)) (by dsimp only [List.set]; try rfl) ?_
  refine q_is rfl rfl (does_build (parts' := []) (cells := #[(Iv 0), (Iv 0), (Iv 0)]) (evp rfl) (by kernel_rfl)) (by dsimp only [List.set]; try rfl) ?_
  refine q_is rfl rfl (does_build (parts' := []) (cells := #[(Fl 0), (Fl 0), (Fl 0)]) (evp rfl) (by kernel_rfl)) (by dsimp only [List.set]; try rfl) ?_
  refine seqd rfl rfl (does_alloc z64) ?_; rintro _ w43 ⟨b39, rfl, hb40, hB41, E42⟩
  have n44 : g_b < b39 := Nat.lt_of_lt_of_le (cell_lt (Cells.at (hc_g.ext X37) 0 rfl)) hb40
  have n45 : b21 < b39 := Nat.lt_of_lt_of_le (Blk.lt (hB23.ext E32)) hb40
  have n46 : b29 < b39 := Nat.lt_of_lt_of_le (Blk.lt hB31) hb40
  have g47 : w.heap.size ≤ b39 := Nat.le_trans (Below.size X37) hb40
  change Blk _ _ [(Iv 0), (Iv 0), (Iv 0)] at hB41
  have X48 := Ext.gr X37 E42
  show wpList _ _ _ _ (fr [(Pt g_b g_o), (.agg #[(Fl r11), (Fl r13), (Fl r15)]), (Pt b21 0), (Pt b29 0), (Fl 0), (Pt b39 0), Ud, Ud, Ud, Ud, Ud, Ud, Ud, Ud, Ud, (.agg #[(Iv 0), (Iv 0), (Iv 0)]), (.agg #[(Iv 0), (Iv 0), (Iv 0)]), (.agg #[(Fl 0), (Fl 0), (Fl 0)]), Ud, Ud, Ud, Ud, Ud, Ud, Ud, Ud, Ud, Ud, Ud, Ud, Ud, Ud, Ud, Ud, Ud, Ud, Ud, Ud, Ud, Ud, Ud, Ud, Ud, Ud, Ud, Ud, Ud, Ud, Ud, Ud, Ud, Ud, Ud, Ud, Ud, Ud, Ud, Ud, Ud, Ud, Ud, Ud, Ud, Ud, Ud, Ud]) _
  refine seqd rfl rfl (does_alloc z64) ?_; rintro _ w53 ⟨b49, rfl, hb50, hB51, E52⟩
  have n54 : g_b < b49 := Nat.lt_of_lt_of_le (cell_lt (Cells.at (hc_g.ext X48) 0 rfl)) hb50
  have n55 : b21 < b49 := Nat.lt_of_lt_of_le (Blk.lt ((hB23.ext E32).ext E42)) hb50
  have n56 : b29 < b49 := Nat.lt_of_lt_of_le (Blk.lt (hB31.ext E42)) hb50
  have n57 : b39 < b49 := Nat.lt_of_lt_of_le (Blk.lt hB41) hb50
  have g58 : w.heap.size ≤ b49 := Nat.le_trans (Below.size X48) hb50
  change Blk _ _ [(Iv 0), (Iv 0), (Iv 0)] at hB51
  have X59 := Ext.gr X48 E52
  show wpList _ _ _ _ (fr [(Pt g_b g_o), (.agg #[(Fl r11), (Fl r13), (Fl r15)]), (Pt b21 0), (Pt b29 0), (Fl 0), (Pt b39 0), (Pt b49 0), Ud, Ud, Ud, Ud, Ud, Ud, Ud, Ud, (.agg #[(Iv 0), (Iv 0), (Iv 0)]), (.agg #[(Iv 0), (Iv 0), (Iv 0)]), (.agg #[(Fl 0), (Fl 0), (Fl 0)]), Ud, Ud, Ud, Ud, Ud, Ud, Ud, Ud, Ud, Ud, Ud, Ud, Ud, Ud, Ud, Ud, Ud, Ud, Ud, Ud, Ud, Ud, Ud, Ud, Ud, Ud, Ud, Ud, Ud, Ud, Ud, Ud, Ud, Ud, Ud, Ud, Ud, Ud, Ud, Ud, Ud, Ud, Ud, Ud, Ud, Ud, Ud, Ud]) _
  refine seqd rfl rfl (does_alloc z54) ?_; rintro _ w64 ⟨b60, rfl, hb61, hB62, E63⟩
  have n65 : g_b < b60 := Nat.lt_of_lt_of_le (cell_lt (Cells.at (hc_g.ext X59) 0 rfl)) hb61
  have n66 : b21 < b60 := Nat.lt_of_lt_of_le (Blk.lt (((hB23.ext E32).ext E42).ext E52)) hb61
  have n67 : b29 < b60 := Nat.lt_of_lt_of_le (Blk.lt ((hB31.ext E42).ext E52)) hb61
  have n68 : b39 < b60 := Nat.lt_of_lt_of_le (Blk.lt (hB41.ext E52)) hb61
  have n69 : b49 < b60 := Nat.lt_of_lt_of_le (Blk.lt hB51) hb61
  have g70 : w.heap.size ≤ b60 := Nat.le_trans (Below.size X59) hb61
  change Blk _ _ [(Fl 0), (Fl 0), (Fl 0)] at hB62
  have X71 := Ext.gr X59 E63
  show wpList _ _ _ _ (fr [(Pt g_b g_o), (.agg #[(Fl r11), (Fl r13), (Fl r15)]), (Pt b21 0), (Pt b29 0), (Fl 0), (Pt b39 0), (Pt b49 0), (Pt b60 0), Ud, Ud, Ud, Ud, Ud, Ud, Ud, (.agg #[(Iv 0), (Iv 0), (Iv 0)]), (.agg #[(Iv 0), (Iv 0), (Iv 0)]), (.agg #[(Fl 0), (Fl 0), (Fl 0)]), Ud, Ud, Ud, Ud, Ud, Ud, Ud, Ud, Ud, Ud, Ud, Ud, Ud, Ud, Ud, Ud, Ud, Ud, Ud, Ud, Ud, Ud, Ud, Ud, Ud, Ud, Ud, Ud, Ud, Ud, Ud, Ud, Ud, Ud, Ud, Ud, Ud, Ud, Ud, Ud, Ud, Ud, Ud, Ud, Ud, Ud, Ud, Ud]) _
  refine seqn rfl rfl (does_store (n := 3) (cs := [(Iv 0), (Iv 0), (Iv 0)]) (u := (.agg #[(Iv 0), (Iv 0), (Iv 0)])) (ev rfl) (ev rfl) Try.sizeOf64 rfl ((hB41.ext E52).ext E63) (Nat.le_of_ble_eq_true rfl) rfl) ?_; rintro _ w74 ⟨rfl, W72, hB73⟩
  change Blk _ _ [(Iv 0), (Iv 0), (Iv 0)] at hB73
  have X75 := Below.wr X71 W72 g47
  refine seqn rfl rfl (does_store (n := 3) (cs := [(Iv 0), (Iv 0), (Iv 0)]) (u := (.agg #[(Iv 0), (Iv 0), (Iv 0)])) (ev rfl) (ev rfl) Try.sizeOf64 rfl ((hB51.ext E63).wr W72 (Nat.ne_of_gt n57)) (Nat.le_of_ble_eq_true rfl) rfl) ?_; rintro _ w78 ⟨rfl, W76, hB77⟩
  change Blk _ _ [(Iv 0), (Iv 0), (Iv 0)] at hB77
  have X79 := Below.wr X75 W76 g58
  refine seqn rfl rfl (does_store (n := 3) (cs := [(Fl 0), (Fl 0), (Fl 0)]) (u := (.agg #[(Fl 0), (Fl 0), (Fl 0)])) (ev rfl) (ev rfl) Try.sizeOf54 rfl ((hB62.wr W72 (Nat.ne_of_gt n68)).wr W76 (Nat.ne_of_gt n69)) (Nat.le_of_ble_eq_true rfl) rfl) ?_; rintro _ w82 ⟨rfl, W80, hB81⟩
  change Blk _ _ [(Fl 0), (Fl 0), (Fl 0)] at hB81
  have X83 := Below.wr X79 W80 g70
  refine wpList_nil (hK38 _ _ ?_)
  refine wp_seq_k fun K84 hK84 => ?_
  refine region_any3 [] [9, 10, 11] [0, 1, 0, 4, 12, 28, 63, 0, 255, 0, 0, 0, 4095, 8191, 16383] [] (
    [FactW.pure [] [] [] true (fun v => v = (.agg #[(Fl r11), (Fl r13), (Fl r15)])),
      FactW.pure [0] [] [] true (fun v => ∃ r_1 : Nat, ∃ r_2 : Nat, ∃ r_3 : Nat, v = (.agg #[(Fl r_1), (Fl r_2), (Fl r_3)]) ∧ cf .f32 r_1 = A_p.x ∧ cf .f32 r_2 = A_p.y ∧ cf .f32 r_3 = A_p.z),
      FactW.pure [] [] [] true (fun v => v = (Pt g_b g_o)),
      FactW.pure [2] [] [] true (fun v => v = (Pt g_b g_o)),
      FactW.pure [3] [] [] true (fun v => v = (Pt g_b g_o)),
      FactW.pure [4] [] [] true (fun v => v = (.agg #[(Fl r1), (Fl r3), (Fl r5)])),
      FactW.pure [5] [] [] true (fun v => ∃ r_1 : Nat, ∃ r_2 : Nat, ∃ r_3 : Nat, v = (.agg #[(Fl r_1), (Fl r_2), (Fl r_3)]) ∧ cf .f32 r_1 = A_g.low.x ∧ cf .f32 r_2 = A_g.low.y ∧ cf .f32 r_3 = A_g.low.z),
      FactW.pure [] [] [] true (fun v => v = (Pt g_b g_o)),
      FactW.pure [7] [] [] true (fun v => v = (.agg #[(Iv A_g.x), (Iv A_g.y), (Iv A_g.z)])),
      FactW.mem [] [] [] [] true (fun v w' => ∃ b : Nat, v = .pointer (some ⟨b, 0, none⟩) ∧ w82.heap.size ≤ b ∧ Blk w' b [(Fl 0), (Fl 0), (Fl 0)]) (by rintro v w1 w2 hx' ⟨b, rfl, hb, hB⟩; have hx := KpL.toExt hx'; exact ⟨b, rfl, hb, (hB.ext hx)⟩),
      FactW.mem [] [] [] [] true (fun v w' => ∃ b : Nat, v = .pointer (some ⟨b, 0, none⟩) ∧ w82.heap.size ≤ b ∧ Blk w' b [(Fl 0), (Fl 0), (Fl 0)]) (by rintro v w1 w2 hx' ⟨b, rfl, hb, hB⟩; have hx := KpL.toExt hx'; exact ⟨b, rfl, hb, (hB.ext hx)⟩),
      FactW.mem [] [] [] [] true (fun v w' => ∃ b : Nat, v = .pointer (some ⟨b, 0, none⟩) ∧ w82.heap.size ≤ b ∧ Blk w' b [(Iv 0), (Iv 0), (Iv 0)]) (by rintro v w1 w2 hx' ⟨b, rfl, hb, hB⟩; have hx := KpL.toExt hx'; exact ⟨b, rfl, hb, (hB.ext hx)⟩)]) mixed (by kernel_rfl) ?_
  obtain ⟨w85, hw87⟩ : ∃ w', w' = World.drew w82 := ⟨_, rfl⟩; rw [← hw87]; have E86 : Ext w82 w85 := by rw [hw87]; exact Ext.draw _
  clear hw87
  have X88 := Ext.gr X83 E86
  refine RW3_d _ rfl rfl (fun v => by dsimp only [List.set]; try rfl) (fun u hu hF => ?_) (fun v89 => ?_)
  · replace hu : KpL [] _ _ := hu
    clear hF
    refine doesG_un rfl ?_
    refine (does_loadAgg (cs := [(Fl r11), (Fl r13), (Fl r15)]) (ev rfl) Try.isAgg31 Try.sizeOf31 (Blk.cells ((((((((hB31.ext E42).ext E52).ext E63).wr W72 (Nat.ne_of_lt n46)).wr W76 (Nat.ne_of_lt n56)).wr W80 (Nat.ne_of_lt n67)).ext E86).ext (KpL.toExt hu))) rfl).mono ?_; rintro _ _ ⟨rfl, rfl⟩
    exact ⟨rfl, KpL.refl _ _⟩
  refine RW3_d _ rfl rfl (fun v => by dsimp only [List.set]; try rfl) (fun u hu hF => ?_) (fun v90 => ?_)
  · replace hu : KpL [] _ _ := hu
    have h18_ : v89 = (.agg #[(Fl r11), (Fl r13), (Fl r15)]) := hF.1
    clear hF
    refine doesG_un rfl ?_
    obtain rfl := h18_
    refine (does_call (args := #[(.agg #[(Fl r11), (Fl r13), (Fl r15)])]) cal26 (evs rfl) (c_impl_coordinates [(Fl r11), (Fl r13), (Fl r15)] A_p _ ⟨r11, r13, r15, rfl, h12, h14, h16⟩)).mono ?_; rintro v u' ⟨hx, ⟨rn1, rn2, rn3, hv, k0, k1, k2⟩⟩
    exact ⟨⟨rn1, rn2, rn3, hv, (by simp only [k0]), (by simp only [k1]), (by simp only [k2])⟩, (KpL.of_ext hx)⟩
  refine RW3_d _ rfl rfl (fun v => by dsimp only [List.set]; try rfl) (fun u hu hF => ?_) (fun v91 => ?_)
  · replace hu : KpL [] _ _ := hu
    clear hF
    refine doesG_un rfl ?_
    refine (does_load (u := (Pt g_b g_o)) (ev rfl) Try.isAgg45 (Cells.at (Blk.cells (((((((((hB23.ext E32).ext E42).ext E52).ext E63).wr W72 (Nat.ne_of_lt n45)).wr W76 (Nat.ne_of_lt n55)).wr W80 (Nat.ne_of_lt n66)).ext E86).ext (KpL.toExt hu))) 0 rfl)).mono ?_; rintro _ _ ⟨rfl, rfl⟩
    exact ⟨rfl, KpL.refl _ _⟩
  refine RW3_d _ rfl rfl (fun v => by dsimp only [List.set]; try rfl) (fun u hu hF => ?_) (fun v92 => ?_)
  · replace hu : KpL [] _ _ := hu
    have h20_ : v91 = (Pt g_b g_o) := hF.1
    clear hF
    refine doesG_un rfl ?_
    obtain rfl := h20_
    refine (does_nilCheck (ev rfl)).mono ?_; rintro _ _ ⟨rfl, rfl⟩
    exact ⟨rfl, KpL.refl _ _⟩
  refine RW3_d _ rfl rfl (fun v => by dsimp only [List.set]; try rfl) (fun u hu hF => ?_) (fun v93 => ?_)
  · replace hu : KpL [] _ _ := hu
    have h21_ : v92 = (Pt g_b g_o) := hF.1
    clear hF
    refine doesG_un rfl ?_
    obtain rfl := h21_
    refine (does_fieldAddr (ev rfl) fa33_0).mono ?_; rintro _ _ ⟨rfl, rfl⟩
    exact ⟨rfl, KpL.refl _ _⟩
  refine RW3_d _ rfl rfl (fun v => by dsimp only [List.set]; try rfl) (fun u hu hF => ?_) (fun v94 => ?_)
  · replace hu : KpL [] _ _ := hu
    have h22_ : v93 = (Pt g_b g_o) := hF.1
    clear hF
    refine doesG_un rfl ?_
    obtain rfl := h22_
    refine (does_loadAgg (cs := [(Fl r1), (Fl r3), (Fl r5)]) (ev rfl) Try.isAgg31 Try.sizeOf31 (Cells.sub (hc_g.ext (Ext.gr (Ext.gr X83 E86) (KpL.toExt hu))) 0 3) rfl).mono ?_; rintro _ _ ⟨rfl, rfl⟩
    exact ⟨rfl, KpL.refl _ _⟩
  refine RW3_d _ rfl rfl (fun v => by dsimp only [List.set]; try rfl) (fun u hu hF => ?_) (fun v95 => ?_)
  · replace hu : KpL [] _ _ := hu
    have h23_ : v94 = (.agg #[(Fl r1), (Fl r3), (Fl r5)]) := hF.1
    clear hF
    refine doesG_un rfl ?_
    obtain rfl := h23_
    refine (does_call (args := #[(.agg #[(Fl r1), (Fl r3), (Fl r5)])]) cal26 (evs rfl) (c_impl_coordinates [(Fl r1), (Fl r3), (Fl r5)] A_g.low _ ⟨r1, r3, r5, rfl, h2, h4, h6⟩)).mono ?_; rintro v u' ⟨hx, ⟨rn1, rn2, rn3, hv, k0, k1, k2⟩⟩
    exact ⟨⟨rn1, rn2, rn3, hv, (by simp only [k0]), (by simp only [k1]), (by simp only [k2])⟩, (KpL.of_ext hx)⟩
  refine RW3_d _ rfl rfl (fun v => by dsimp only [List.set]; try rfl) (fun u hu hF => ?_) (fun v96 => ?_)
  · replace hu : KpL [] _ _ := hu
    clear hF
    refine doesG_un rfl ?_
    refine (does_load (u := (Pt g_b g_o)) (ev rfl) Try.isAgg45 (Cells.at (Blk.cells (((((((((hB23.ext E32).ext E42).ext E52).ext E63).wr W72 (Nat.ne_of_lt n45)).wr W76 (Nat.ne_of_lt n55)).wr W80 (Nat.ne_of_lt n66)).ext E86).ext (KpL.toExt hu))) 0 rfl)).mono ?_; rintro _ _ ⟨rfl, rfl⟩
    exact ⟨rfl, KpL.refl _ _⟩
  refine RW3_d _ rfl rfl (fun v => by dsimp only [List.set]; try rfl) (fun u hu hF => ?_) (fun v97 => ?_)
  · replace hu : KpL [] _ _ := hu
    have h25_ : v96 = (Pt g_b g_o) := hF.1
    clear hF
    refine doesG_un rfl ?_
    obtain rfl := h25_
    refine (does_call (args := #[(Pt g_b g_o)]) cal35 (evs rfl) (c_impl_Grid_counts g_b g_o [(Fl r1), (Fl r3), (Fl r5), (Fl r7), (Iv A_g.x), (Iv A_g.y), (Iv A_g.z), (.slice p17 A_g.vals.length q18)] A_g _ (hc_g.ext (Ext.gr (Ext.gr X83 E86) (KpL.toExt hu))) ⟨r1, r3, r5, r7, (.slice p17 A_g.vals.length q18), rfl, h2, h4, h6, h8, (Sl.ext hs19 RF.mono (Ext.gr (Ext.gr X83 E86) (KpL.toExt hu)))⟩)).mono ?_; rintro v u' ⟨hx, hv⟩
    exact ⟨hv, (KpL.of_ext hx)⟩
  refine RW3_b _ rfl rfl (fun v => by dsimp only [List.set]; try rfl) (fun u hu hF => ?_) (fun v98 => ?_)
  · replace hu : KpL [] _ _ := hu
    clear hF
    refine doesG_un rfl ?_
    refine (does_alloc z54).mono ?_; rintro _ _ ⟨b, rfl, hb, hB, hx⟩
    exact ⟨⟨b, rfl, Nat.le_trans (Nat.le_trans (Below.size E86) (KpL.size hu)) hb, hB⟩, (KpL.of_ext hx), ⟨b, rfl, hb, hB.lt⟩⟩
  refine RW3_b _ rfl rfl (fun v => by dsimp only [List.set]; try rfl) (fun u hu hF => ?_) (fun v99 => ?_)
  · replace hu : KpL [] _ _ := hu
    clear hF
    refine doesG_un rfl ?_
    refine (does_alloc z54).mono ?_; rintro _ _ ⟨b, rfl, hb, hB, hx⟩
    exact ⟨⟨b, rfl, Nat.le_trans (Nat.le_trans (Below.size E86) (KpL.size hu)) hb, hB⟩, (KpL.of_ext hx), ⟨b, rfl, hb, hB.lt⟩⟩
  refine RW3_b _ rfl rfl (fun v => by dsimp only [List.set]; try rfl) (fun u hu hF => ?_) (fun v100 => ?_)
  · replace hu : KpL [] _ _ := hu
    clear hF
    refine doesG_un rfl ?_
    refine (does_alloc z64).mono ?_; rintro _ _ ⟨b, rfl, hb, hB, hx⟩
    exact ⟨⟨b, rfl, Nat.le_trans (Nat.le_trans (Below.size E86) (KpL.size hu)) hb, hB⟩, (KpL.of_ext hx), ⟨b, rfl, hb, hB.lt⟩⟩
  refine RW3_fin ?_; intro w101 E102 hP103 hND; replace E102 : KpL [] _ _ := E102
  obtain ⟨⟨⟨⟨⟨⟨⟨⟨⟨⟨⟨⟨-, -⟩, q104⟩, -⟩, -⟩, -⟩, -⟩, q105⟩, -⟩, q106⟩, q107⟩, q108⟩, q109⟩ := hP103
  have X110 := Below.kl X88 E102 all0 (Nat.le_refl _)
  have q104 : ∃ r_1 : Nat, ∃ r_2 : Nat, ∃ r_3 : Nat, v90 = (.agg #[(Fl r_1), (Fl r_2), (Fl r_3)]) ∧ cf .f32 r_1 = A_p.x ∧ cf .f32 r_2 = A_p.y ∧ cf .f32 r_3 = A_p.z := q104 rfl
  obtain ⟨r111, r113, r115, rfl, h112, h114, h116⟩ := q104
  have q105 : ∃ r_1 : Nat, ∃ r_2 : Nat, ∃ r_3 : Nat, v95 = (.agg #[(Fl r_1), (Fl r_2), (Fl r_3)]) ∧ cf .f32 r_1 = A_g.low.x ∧ cf .f32 r_2 = A_g.low.y ∧ cf .f32 r_3 = A_g.low.z := q105 rfl
  obtain ⟨r117, r119, r121, rfl, h118, h120, h122⟩ := q105
  have q106 : v97 = (.agg #[(Iv A_g.x), (Iv A_g.y), (Iv A_g.z)]) := q106 rfl
  obtain rfl := q106
  have q107 : ∃ b : Nat, v98 = .pointer (some ⟨b, 0, none⟩) ∧ w82.heap.size ≤ b ∧ Blk w101 b [(Fl 0), (Fl 0), (Fl 0)] := q107 rfl
  obtain ⟨b123, rfl, hb124, hB125⟩ := q107
  have n126 : g_b < b123 := Nat.lt_of_lt_of_le (cell_lt (Cells.at (hc_g.ext X83) 0 rfl)) hb124
  have n127 : b21 < b123 := Nat.lt_of_lt_of_le (Blk.lt (((((((hB23.ext E32).ext E42).ext E52).ext E63).wr W72 (Nat.ne_of_lt n45)).wr W76 (Nat.ne_of_lt n55)).wr W80 (Nat.ne_of_lt n66))) hb124
  have n128 : b29 < b123 := Nat.lt_of_lt_of_le (Blk.lt ((((((hB31.ext E42).ext E52).ext E63).wr W72 (Nat.ne_of_lt n46)).wr W76 (Nat.ne_of_lt n56)).wr W80 (Nat.ne_of_lt n67))) hb124
  have n129 : b39 < b123 := Nat.lt_of_lt_of_le (Blk.lt ((hB73.wr W76 (Nat.ne_of_lt n57)).wr W80 (Nat.ne_of_lt n68))) hb124
  have n130 : b49 < b123 := Nat.lt_of_lt_of_le (Blk.lt (hB77.wr W80 (Nat.ne_of_lt n69))) hb124
  have n131 : b60 < b123 := Nat.lt_of_lt_of_le (Blk.lt hB81) hb124
  have g132 : w.heap.size ≤ b123 := Nat.le_trans (Below.size X83) hb124
  have q108 : ∃ b : Nat, v99 = .pointer (some ⟨b, 0, none⟩) ∧ w82.heap.size ≤ b ∧ Blk w101 b [(Fl 0), (Fl 0), (Fl 0)] := q108 rfl
  obtain ⟨b133, rfl, hb134, hB135⟩ := q108
  have n136 : g_b < b133 := Nat.lt_of_lt_of_le (cell_lt (Cells.at (hc_g.ext X83) 0 rfl)) hb134
  have n137 : b21 < b133 := Nat.lt_of_lt_of_le (Blk.lt (((((((hB23.ext E32).ext E42).ext E52).ext E63).wr W72 (Nat.ne_of_lt n45)).wr W76 (Nat.ne_of_lt n55)).wr W80 (Nat.ne_of_lt n66))) hb134
  have n138 : b29 < b133 := Nat.lt_of_lt_of_le (Blk.lt ((((((hB31.ext E42).ext E52).ext E63).wr W72 (Nat.ne_of_lt n46)).wr W76 (Nat.ne_of_lt n56)).wr W80 (Nat.ne_of_lt n67))) hb134
  have n139 : b39 < b133 := Nat.lt_of_lt_of_le (Blk.lt ((hB73.wr W76 (Nat.ne_of_lt n57)).wr W80 (Nat.ne_of_lt n68))) hb134
  have n140 : b49 < b133 := Nat.lt_of_lt_of_le (Blk.lt (hB77.wr W80 (Nat.ne_of_lt n69))) hb134
  have n141 : b60 < b133 := Nat.lt_of_lt_of_le (Blk.lt hB81) hb134
  have g142 : w.heap.size ≤ b133 := Nat.le_trans (Below.size X83) hb134
  have q109 : ∃ b : Nat, v100 = .pointer (some ⟨b, 0, none⟩) ∧ w82.heap.size ≤ b ∧ Blk w101 b [(Iv 0), (Iv 0), (Iv 0)] := q109 rfl
  obtain ⟨b143, rfl, hb144, hB145⟩ := q109
  have n146 : g_b < b143 := Nat.lt_of_lt_of_le (cell_lt (Cells.at (hc_g.ext X83) 0 rfl)) hb144
  have n147 : b21 < b143 := Nat.lt_of_lt_of_le (Blk.lt (((((((hB23.ext E32).ext E42).ext E52).ext E63).wr W72 (Nat.ne_of_lt n45)).wr W76 (Nat.ne_of_lt n55)).wr W80 (Nat.ne_of_lt n66))) hb144
  have n148 : b29 < b143 := Nat.lt_of_lt_of_le (Blk.lt ((((((hB31.ext E42).ext E52).ext E63).wr W72 (Nat.ne_of_lt n46)).wr W76 (Nat.ne_of_lt n56)).wr W80 (Nat.ne_of_lt n67))) hb144
  have n149 : b39 < b143 := Nat.lt_of_lt_of_le (Blk.lt ((hB73.wr W76 (Nat.ne_of_lt n57)).wr W80 (Nat.ne_of_lt n68))) hb144
  have n150 : b49 < b143 := Nat.lt_of_lt_of_le (Blk.lt (hB77.wr W80 (Nat.ne_of_lt n69))) hb144
  have n151 : b60 < b143 := Nat.lt_of_lt_of_le (Blk.lt hB81) hb144
  have g152 : w.heap.size ≤ b143 := Nat.le_trans (Below.size X83) hb144
  have n153 : b133 ≠ b123 := by intro h; subst h; simp at hND
  have n154 : b143 ≠ b123 := by intro h; subst h; simp at hND
  have n155 : b143 ≠ b133 := by intro h; subst h; simp at hND
  clear hND
  show wpList _ _ _ _ (fr [(Pt g_b g_o), (.agg #[(Fl r11), (Fl r13), (Fl r15)]), (Pt b21 0), (Pt b29 0), (Fl 0), (Pt b39 0), (Pt b49 0), (Pt b60 0), (Pt b123 0), (Pt b133 0), (Pt b143 0), Ud, Ud, Ud, Ud, (.agg #[(Iv 0), (Iv 0), (Iv 0)]), (.agg #[(Iv 0), (Iv 0), (Iv 0)]), (.agg #[(Fl 0), (Fl 0), (Fl 0)]), v89, (.agg #[(Fl r111), (Fl r113), (Fl r115)]), v91, v92, v93, v94, (.agg #[(Fl r117), (Fl r119), (Fl r121)]), v96, (.agg #[(Iv A_g.x), (Iv A_g.y), (Iv A_g.z)]), Ud, Ud, Ud, Ud, Ud, Ud, Ud, Ud, Ud, Ud, Ud, Ud, Ud, Ud, Ud, Ud, Ud, Ud, Ud, Ud, Ud, Ud, Ud, Ud, Ud, Ud, Ud, Ud, Ud, Ud, Ud, Ud, Ud, Ud, Ud, Ud, Ud, Ud, Ud]) _
  refine seqn rfl rfl (does_store (n := 3) (cs := [(Fl 0), (Fl 0), (Fl 0)]) (u := (.agg #[(Fl r111), (Fl r113), (Fl r115)])) (ev rfl) (ev rfl) Try.sizeOf54 rfl hB125 (Nat.le_of_ble_eq_true rfl) rfl) ?_; rintro _ w158 ⟨rfl, W156, hB157⟩
  change Blk _ _ [(Fl r111), (Fl r113), (Fl r115)] at hB157
  have X159 := Below.wr X110 W156 g132
  refine seqn rfl rfl (does_store (n := 3) (cs := [(Fl 0), (Fl 0), (Fl 0)]) (u := (.agg #[(Fl r117), (Fl r119), (Fl r121)])) (ev rfl) (ev rfl) Try.sizeOf54 rfl (hB135.wr W156 n153) (Nat.le_of_ble_eq_true rfl) rfl) ?_; rintro _ w162 ⟨rfl, W160, hB161⟩
  change Blk _ _ [(Fl r117), (Fl r119), (Fl r121)] at hB161
  have X163 := Below.wr X159 W160 g142
  refine seqn rfl rfl (does_store (n := 3) (cs := [(Iv 0), (Iv 0), (Iv 0)]) (u := (.agg #[(Iv A_g.x), (Iv A_g.y), (Iv A_g.z)])) (ev rfl) (ev rfl) Try.sizeOf64 rfl ((hB145.wr W156 n154).wr W160 n155) (Nat.le_of_ble_eq_true rfl) rfl) ?_; rintro _ w166 ⟨rfl, W164, hB165⟩
  change Blk _ _ [(Iv A_g.x), (Iv A_g.y), (Iv A_g.z)] at hB165
  have X167 := Below.wr X163 W164 g152
  refine wpList_nil (hK84 _ _ ?_)
  refine wp_seq_k fun K168 hK168 => ?_
  refine wp_seq_k fun K169 hK169 => ?_
  refine wp_region_lit ?_
  refine q_is rfl rfl (does_move (u := (Iv 0)) (ev rfl)) (by dsimp only [List.set]; try rfl) ?_
  refine wpList_nil (hK169 _ _ ?_)
  refine wp_block ?_
  refine loop_unroll 4 ?_
  refine un_step ?_
  refine wp_seq_k fun K170 hK170 => ?_
  refine wp_region_lit ?_
  refine q_is rfl rfl (does_icmp (p := 0) (q := 3) (.inr (.inr (.inl rfl))) (ev rfl) (ev rfl)) (by dsimp only [List.set]; try rfl) ?_
  refine wpList_nil (hK170 _ _ ?_)
  refine wp_seq_k fun K171 hK171 => ?_
  refine wp_cond_true (ev rfl) ?_
  refine wp_skip (hK171 _ _ ?_)
  refine wp_seq_k fun K172 hK172 => ?_
  refine wp_block ?_
  refine wp_seq_k fun K173 hK173 => ?_
  refine wp_region_lit ?_
  refine q_is rfl rfl (does_move (u := (Iv 0)) (ev rfl)) (by dsimp only [List.set]; try rfl) ?_
  refine q_is rfl rfl (does_assign (u := (Iv 0)) (ev rfl)) (by dsimp only [List.set]; try rfl) ?_
  refine wpList_nil (hK173 _ _ ?_)
  refine region_draw (
    [Fact.pure [] (fun v => v = (Iv 0)),
    Fact.flt [] (fun v => v = (Iv 0)),
    Fact.flt [] (fun v => v = (Iv 0)),
    Fact.pure [] (fun v => v = (Pt g_b g_o)),
    Fact.pure [] (fun v => v = (Iv 0)),
    Fact.pure [35] (fun v => v = (Pt b123 0)),
    Fact.pure [36] (fun v => v = (Fl r111)),
    Fact.pure [] (fun v => v = (Iv 0)),
    Fact.pure [38] (fun v => v = (Pt b133 0)),
    Fact.pure [39] (fun v => v = (Fl r117)),
    Fact.pure [] (fun v => v = (Iv 0)),
    Fact.pure [41] (fun v => v = (Pt b143 0)),
    Fact.pure [42] (fun v => v = (Iv A_g.x)),
    Fact.pure [34, 37, 40, 43] (fun v => ∃ r_1 : Nat, v = (.tuple #[(Iv (cellI (cf .f32 r111) (cf .f32 r117) A_g.step A_g.x)), (Iv (min (cellI (cf .f32 r111) (cf .f32 r117) A_g.step A_g.x + 1) (A_g.x - 1))), (Fl r_1)]) ∧ cf .f32 r_1 = cellF (cf .f32 r111) (cf .f32 r117) A_g.step A_g.x),
    Fact.pure [44] (fun v => ∃ r_1 : Nat, v = (.tuple #[(Iv (cellI (cf .f32 r111) (cf .f32 r117) A_g.step A_g.x)), (Iv (min (cellI (cf .f32 r111) (cf .f32 r117) A_g.step A_g.x + 1) (A_g.x - 1))), (Fl r_1)]) ∧ cf .f32 r_1 = cellF (cf .f32 r111) (cf .f32 r117) A_g.step A_g.x),
    Fact.pure [30] (fun v => v = (Iv (cellI (cf .f32 r111) (cf .f32 r117) A_g.step A_g.x))),
    Fact.flt [30] (fun v => v = (Iv (min (cellI (cf .f32 r111) (cf .f32 r117) A_g.step A_g.x + 1) (A_g.x - 1)))),
    Fact.flt [30] (fun v => ∃ r_1 : Nat, v = (Fl r_1) ∧ cf .f32 r_1 = cellF (cf .f32 r111) (cf .f32 r117) A_g.step A_g.x),
    Fact.pure [31] (fun v => v = (Pt b39 0))]) mixed (by kernel_rfl) (by intro _ _ d _ _ h; cases d <;> exact h) ?_
  obtain ⟨w174, hw176⟩ : ∃ w', w' = World.drew w166 := ⟨_, rfl⟩; rw [← hw176]; have E175 : Ext w166 w174 := by rw [hw176]; exact Ext.draw _
  clear hw176
  have X177 := Ext.gr X167 E175
  refine RW_d _ rfl (fun v => by dsimp only [List.set]; try rfl) (fun u hu hF => ?_) (fun v178 => ?_)
  · clear hF
    refine doesG_un rfl ?_
    refine (does_move (u := (Iv 0)) (ev rfl)).mono ?_; rintro _ _ ⟨rfl, rfl⟩
    exact ⟨rfl, Ext.refl _⟩
  refine RW_d _ rfl (fun v => by dsimp only [List.set]; try rfl) (fun u hu hF => ?_) (fun v179 => ?_)
  · clear hF
    exact ⟨_, yields_is rfl (run_move (ev rfl)), rfl⟩
  refine RW_d _ rfl (fun v => by dsimp only [List.set]; try rfl) (fun u hu hF => ?_) (fun v180 => ?_)
  · clear hF
    exact ⟨_, yields_is rfl (run_move (ev rfl)), rfl⟩
  refine RW_d _ rfl (fun v => by dsimp only [List.set]; try rfl) (fun u hu hF => ?_) (fun v181 => ?_)
  · clear hF
    refine doesG_un rfl ?_
    refine (does_load (u := (Pt g_b g_o)) (ev rfl) Try.isAgg45 (Cells.at (Blk.cells ((((((((((((((hB23.ext E32).ext E42).ext E52).ext E63).wr W72 (Nat.ne_of_lt n45)).wr W76 (Nat.ne_of_lt n55)).wr W80 (Nat.ne_of_lt n66)).ext E86).kl E102 nin0).wr W156 (Nat.ne_of_lt n127)).wr W160 (Nat.ne_of_lt n137)).wr W164 (Nat.ne_of_lt n147)).ext E175).ext hu)) 0 rfl)).mono ?_; rintro _ _ ⟨rfl, rfl⟩
    exact ⟨rfl, Ext.refl _⟩
  refine RW_d _ rfl (fun v => by dsimp only [List.set]; try rfl) (fun u hu hF => ?_) (fun v182 => ?_)
  · clear hF
    refine doesG_un rfl ?_
    refine (does_move (u := (Iv 0)) (ev rfl)).mono ?_; rintro _ _ ⟨rfl, rfl⟩
    exact ⟨rfl, Ext.refl _⟩
  refine RW_d _ rfl (fun v => by dsimp only [List.set]; try rfl) (fun u hu hF => ?_) (fun v183 => ?_)
  · have h35_ : v182 = (Iv 0) := hF.1
    clear hF
    refine doesG_un rfl ?_
    obtain rfl := h35_
    refine (does_indexAt_run (r := (Pt b123 0)) (ev rfl) (ev rfl) (fun w => ia54_0 _ _ w)).mono ?_; rintro _ _ ⟨rfl, rfl⟩
    exact ⟨rfl, Ext.refl _⟩
  refine RW_d _ rfl (fun v => by dsimp only [List.set]; try rfl) (fun u hu hF => ?_) (fun v184 => ?_)
  · have h36_ : v183 = (Pt b123 0) := hF.1
    clear hF
    refine doesG_un rfl ?_
    obtain rfl := h36_
    refine (does_load (u := (Fl r111)) (ev rfl) Try.isAgg22 (Cells.at (Blk.cells ((((hB157.wr W160 (Ne.symm n153)).wr W164 (Ne.symm n154)).ext E175).ext hu)) 0 rfl)).mono ?_; rintro _ _ ⟨rfl, rfl⟩
    exact ⟨rfl, Ext.refl _⟩
  refine RW_d _ rfl (fun v => by dsimp only [List.set]; try rfl) (fun u hu hF => ?_) (fun v185 => ?_)
  · clear hF
    refine doesG_un rfl ?_
    refine (does_move (u := (Iv 0)) (ev rfl)).mono ?_; rintro _ _ ⟨rfl, rfl⟩
    exact ⟨rfl, Ext.refl _⟩
  refine RW_d _ rfl (fun v => by dsimp only [List.set]; try rfl) (fun u hu hF => ?_) (fun v186 => ?_)
  · have h38_ : v185 = (Iv 0) := hF.1
    clear hF
    refine doesG_un rfl ?_
    obtain rfl := h38_
    refine (does_indexAt_run (r := (Pt b133 0)) (ev rfl) (ev rfl) (fun w => ia54_0 _ _ w)).mono ?_; rintro _ _ ⟨rfl, rfl⟩
    exact ⟨rfl, Ext.refl _⟩
  refine RW_d _ rfl (fun v => by dsimp only [List.set]; try rfl) (fun u hu hF => ?_) (fun v187 => ?_)
  · have h39_ : v186 = (Pt b133 0) := hF.1
    clear hF
    refine doesG_un rfl ?_
    obtain rfl := h39_
    refine (does_load (u := (Fl r117)) (ev rfl) Try.isAgg22 (Cells.at (Blk.cells (((hB161.wr W164 (Ne.symm n155)).ext E175).ext hu)) 0 rfl)).mono ?_; rintro _ _ ⟨rfl, rfl⟩
    exact ⟨rfl, Ext.refl _⟩
  refine RW_d _ rfl (fun v => by dsimp only [List.set]; try rfl) (fun u hu hF => ?_) (fun v188 => ?_)
  · clear hF
    refine doesG_un rfl ?_
    refine (does_move (u := (Iv 0)) (ev rfl)).mono ?_; rintro _ _ ⟨rfl, rfl⟩
    exact ⟨rfl, Ext.refl _⟩
  refine RW_d _ rfl (fun v => by dsimp only [List.set]; try rfl) (fun u hu hF => ?_) (fun v189 => ?_)
  · have h41_ : v188 = (Iv 0) := hF.1
    clear hF
    refine doesG_un rfl ?_
    obtain rfl := h41_
    refine (does_indexAt_run (r := (Pt b143 0)) (ev rfl) (ev rfl) (fun w => ia64_0 _ _ w)).mono ?_; rintro _ _ ⟨rfl, rfl⟩
    exact ⟨rfl, Ext.refl _⟩
  refine RW_d _ rfl (fun v => by dsimp only [List.set]; try rfl) (fun u hu hF => ?_) (fun v190 => ?_)
  · have h42_ : v189 = (Pt b143 0) := hF.1
    clear hF
    refine doesG_un rfl ?_
    obtain rfl := h42_
    refine (does_load (u := (Iv A_g.x)) (ev rfl) Try.isAgg2 (Cells.at (Blk.cells ((hB165.ext E175).ext hu)) 0 rfl)).mono ?_; rintro _ _ ⟨rfl, rfl⟩
    exact ⟨rfl, Ext.refl _⟩
  refine RW_d _ rfl (fun v => by dsimp only [List.set]; try rfl) (fun u hu hF => ?_) (fun v191 => ?_)
  · have h34_ : v181 = (Pt g_b g_o) := hF.1
    have h37_ : v184 = (Fl r111) := hF.2.1
    have h40_ : v187 = (Fl r117) := hF.2.2.1
    have h43_ : v190 = (Iv A_g.x) := hF.2.2.2.1
    clear hF
    refine doesG_un rfl ?_
    obtain rfl := h34_
    obtain rfl := h37_
    obtain rfl := h40_
    obtain rfl := h43_
    refine (does_call (args := #[(Pt g_b g_o), (Fl r111), (Fl r117), (Iv A_g.x)]) cal38 (evs rfl) (c_impl_Grid_cell g_b g_o [(Fl r1), (Fl r3), (Fl r5), (Fl r7), (Iv A_g.x), (Iv A_g.y), (Iv A_g.z), (.slice p17 A_g.vals.length q18)] A_g r111 r117 A_g.x _ ((hc_g.ext (Ext.gr X167 E175)).ext hu) ⟨r1, r3, r5, r7, (.slice p17 A_g.vals.length q18), rfl, h2, h4, h6, h8, (Sl.ext (Sl.ext hs19 RF.mono (Ext.gr X167 E175)) RF.mono hu)⟩ (by simp only [h2, h4, h6, h8, h12, h14, h16, h112, h114, h116, h118, h120, h122]; first | exact hix | exact hiy | exact hiz) (by omega))).mono ?_; rintro v u' ⟨hx, ⟨rn1, hv, k0⟩⟩
    exact ⟨⟨rn1, hv, (by simp only [k0])⟩, hx⟩
  refine RW_d _ rfl (fun v => by dsimp only [List.set]; try rfl) (fun u hu hF => ?_) (fun v192 => ?_)
  · have h44_ : ∃ r_1 : Nat, v191 = (.tuple #[(Iv (cellI (cf .f32 r111) (cf .f32 r117) A_g.step A_g.x)), (Iv (min (cellI (cf .f32 r111) (cf .f32 r117) A_g.step A_g.x + 1) (A_g.x - 1))), (Fl r_1)]) ∧ cf .f32 r_1 = cellF (cf .f32 r111) (cf .f32 r117) A_g.step A_g.x := hF.1
    clear hF
    refine doesG_un rfl ?_
    obtain ⟨r44_1, rfl, h44_2⟩ := h44_
    refine (does_move (u := (.tuple #[(Iv (cellI (cf .f32 r111) (cf .f32 r117) A_g.step A_g.x)), (Iv (min (cellI (cf .f32 r111) (cf .f32 r117) A_g.step A_g.x + 1) (A_g.x - 1))), (Fl r44_1)])) (ev rfl)).mono ?_; rintro _ _ ⟨rfl, rfl⟩
    exact ⟨⟨r44_1, rfl, (by simp only [h44_2])⟩, Ext.refl _⟩
  refine RW_d _ rfl (fun v => by dsimp only [List.set]; try rfl) (fun u hu hF => ?_) (fun v193 => ?_)
  · have h30_ : ∃ r_1 : Nat, v192 = (.tuple #[(Iv (cellI (cf .f32 r111) (cf .f32 r117) A_g.step A_g.x)), (Iv (min (cellI (cf .f32 r111) (cf .f32 r117) A_g.step A_g.x + 1) (A_g.x - 1))), (Fl r_1)]) ∧ cf .f32 r_1 = cellF (cf .f32 r111) (cf .f32 r117) A_g.step A_g.x := hF.1
    clear hF
    refine doesG_un rfl ?_
    obtain ⟨r30_1, rfl, h30_2⟩ := h30_
    refine (does_extract (vs := #[(Iv (cellI (cf .f32 r111) (cf .f32 r117) A_g.step A_g.x)), (Iv (min (cellI (cf .f32 r111) (cf .f32 r117) A_g.step A_g.x + 1) (A_g.x - 1))), (Fl r30_1)]) (u := (Iv (cellI (cf .f32 r111) (cf .f32 r117) A_g.step A_g.x))) (ev rfl) rfl).mono ?_; rintro _ _ ⟨rfl, rfl⟩
    exact ⟨rfl, Ext.refl _⟩
  refine RW_d _ rfl (fun v => by dsimp only [List.set]; try rfl) (fun u hu hF => ?_) (fun v194 => ?_)
  · have h30_ : ∃ r_1 : Nat, v192 = (.tuple #[(Iv (cellI (cf .f32 r111) (cf .f32 r117) A_g.step A_g.x)), (Iv (min (cellI (cf .f32 r111) (cf .f32 r117) A_g.step A_g.x + 1) (A_g.x - 1))), (Fl r_1)]) ∧ cf .f32 r_1 = cellF (cf .f32 r111) (cf .f32 r117) A_g.step A_g.x := hF.1
    clear hF
    obtain ⟨r30_1, rfl, h30_2⟩ := h30_
    exact ⟨_, yields_is rfl (run_extract (ev rfl) rfl), rfl⟩
  refine RW_d _ rfl (fun v => by dsimp only [List.set]; try rfl) (fun u hu hF => ?_) (fun v195 => ?_)
  · have h30_ : ∃ r_1 : Nat, v192 = (.tuple #[(Iv (cellI (cf .f32 r111) (cf .f32 r117) A_g.step A_g.x)), (Iv (min (cellI (cf .f32 r111) (cf .f32 r117) A_g.step A_g.x + 1) (A_g.x - 1))), (Fl r_1)]) ∧ cf .f32 r_1 = cellF (cf .f32 r111) (cf .f32 r117) A_g.step A_g.x := hF.1
    clear hF
    obtain ⟨r30_1, rfl, h30_2⟩ := h30_
    exact ⟨_, yields_is rfl (run_extract (ev rfl) rfl), ⟨r30_1, rfl, (by simp only [h30_2])⟩⟩
  refine RW_d _ rfl (fun v => by dsimp only [List.set]; try rfl) (fun u hu hF => ?_) (fun v196 => ?_)
  · have h31_ : v178 = (Iv 0) := hF.1
    clear hF
    refine doesG_un rfl ?_
    obtain rfl := h31_
    refine (does_indexAt_run (r := (Pt b39 0)) (ev rfl) (ev rfl) (fun w => ia64_0 _ _ w)).mono ?_; rintro _ _ ⟨rfl, rfl⟩
    exact ⟨rfl, Ext.refl _⟩
  refine RW_fin ?_; intro w197 E198 hP199
  obtain ⟨⟨⟨⟨⟨⟨⟨⟨⟨⟨⟨⟨⟨⟨⟨⟨⟨⟨⟨-, -⟩, q200⟩, q201⟩, -⟩, -⟩, -⟩, -⟩, -⟩, -⟩, -⟩, -⟩, -⟩, -⟩, -⟩, -⟩, q202⟩, q203⟩, q204⟩, q205⟩ := hP199
  have X206 := Ext.gr X177 E198
  have q200 : v179 = (Iv 0) := q200
  obtain rfl := q200
  have q201 : v180 = (Iv 0) := q201
  obtain rfl := q201
  have q202 : v193 = (Iv (cellI (cf .f32 r111) (cf .f32 r117) A_g.step A_g.x)) := q202
  obtain rfl := q202
  have q203 : v194 = (Iv (min (cellI (cf .f32 r111) (cf .f32 r117) A_g.step A_g.x + 1) (A_g.x - 1))) := q203
  obtain rfl := q203
  have q204 : ∃ r_1 : Nat, v195 = (Fl r_1) ∧ cf .f32 r_1 = cellF (cf .f32 r111) (cf .f32 r117) A_g.step A_g.x := q204
  obtain ⟨r207, rfl, h208⟩ := q204
  have q205 : v196 = (Pt b39 0) := q205
  obtain rfl := q205
  show wpList _ _ _ _ (fr [(Pt g_b g_o), (.agg #[(Fl r11), (Fl r13), (Fl r15)]), (Pt b21 0), (Pt b29 0), (Fl 0), (Pt b39 0), (Pt b49 0), (Pt b60 0), (Pt b123 0), (Pt b133 0), (Pt b143 0), (Iv 0), Ud, Ud, Ud, (.agg #[(Iv 0), (Iv 0), (Iv 0)]), (.agg #[(Iv 0), (Iv 0), (Iv 0)]), (.agg #[(Fl 0), (Fl 0), (Fl 0)]), v89, (.agg #[(Fl r111), (Fl r113), (Fl r115)]), v91, v92, v93, v94, (.agg #[(Fl r117), (Fl r119), (Fl r121)]), v96, (.agg #[(Iv A_g.x), (Iv A_g.y), (Iv A_g.z)]), (Iv 0), (Bo true), (Iv 0), v192, v178, (Iv 0), (Iv 0), v181, v182, v183, v184, v185, v186, v187, v188, v189, v190, v191, (Iv (cellI (cf .f32 r111) (cf .f32 r117) A_g.step A_g.x)), (Iv (min (cellI (cf .f32 r111) (cf .f32 r117) A_g.step A_g.x + 1) (A_g.x - 1))), (Fl r207), (Pt b39 0), Ud, Ud, Ud, Ud, Ud, Ud, Ud, Ud, Ud, Ud, Ud, Ud, Ud, Ud, Ud, Ud, Ud]) _
  refine seqn rfl rfl (does_store (n := 1) (cs := [(Iv 0), (Iv 0), (Iv 0)]) (u := (Iv (cellI (cf .f32 r111) (cf .f32 r117) A_g.step A_g.x))) (ev rfl) (ev rfl) Try.sizeOf2 rfl (((((((((hB73.wr W76 (Nat.ne_of_lt n57)).wr W80 (Nat.ne_of_lt n68)).ext E86).kl E102 nin0).wr W156 (Nat.ne_of_lt n129)).wr W160 (Nat.ne_of_lt n139)).wr W164 (Nat.ne_of_lt n149)).ext E175).ext E198) (Nat.le_of_ble_eq_true rfl) rfl) ?_; rintro _ w211 ⟨rfl, W209, hB210⟩
  change Blk _ _ [(Iv (cellI (cf .f32 r111) (cf .f32 r117) A_g.step A_g.x)), (Iv 0), (Iv 0)] at hB210
  have X212 := Below.wr X206 W209 g47
  refine q_is rfl rfl (does_indexAt_run (r := (Pt b49 0)) (ev rfl) (ev rfl) (fun w => ia64_0 _ _ w)) (by dsimp only [List.set]; try rfl) ?_
  refine seqn rfl rfl (does_store (n := 1) (cs := [(Iv 0), (Iv 0), (Iv 0)]) (u := (Iv (min (cellI (cf .f32 r111) (cf .f32 r117) A_g.step A_g.x + 1) (A_g.x - 1)))) (ev rfl) (ev rfl) Try.sizeOf2 rfl (((((((((hB77.wr W80 (Nat.ne_of_lt n69)).ext E86).kl E102 nin0).wr W156 (Nat.ne_of_lt n130)).wr W160 (Nat.ne_of_lt n140)).wr W164 (Nat.ne_of_lt n150)).ext E175).ext E198).wr W209 (Nat.ne_of_gt n57)) (Nat.le_of_ble_eq_true rfl) rfl) ?_; rintro _ w215 ⟨rfl, W213, hB214⟩
  change Blk _ _ [(Iv (min (cellI (cf .f32 r111) (cf .f32 r117) A_g.step A_g.x + 1) (A_g.x - 1))), (Iv 0), (Iv 0)] at hB214
  have X216 := Below.wr X212 W213 g58
  refine q_is rfl rfl (does_indexAt_run (r := (Pt b60 0)) (ev rfl) (ev rfl) (fun w => ia54_0 _ _ w)) (by dsimp only [List.set]; try rfl) ?_
  refine seqn rfl rfl (does_store (n := 1) (cs := [(Fl 0), (Fl 0), (Fl 0)]) (u := (Fl r207)) (ev rfl) (ev rfl) Try.sizeOf22 rfl (((((((((hB81.ext E86).kl E102 nin0).wr W156 (Nat.ne_of_lt n131)).wr W160 (Nat.ne_of_lt n141)).wr W164 (Nat.ne_of_lt n151)).ext E175).ext E198).wr W209 (Nat.ne_of_gt n68)).wr W213 (Nat.ne_of_gt n69)) (Nat.le_of_ble_eq_true rfl) rfl) ?_; rintro _ w219 ⟨rfl, W217, hB218⟩
  change Blk _ _ [(Fl r207), (Fl 0), (Fl 0)] at hB218
  have X220 := Below.wr X216 W217 g70
  refine wpList_nil (hK172 _ _ ?_)
  refine wp_region_lit ?_
  refine q_is rfl rfl (does_iarith (p := 0) (q := 1) (r := (1)) (ev rfl) (ev rfl) (.inl ⟨rfl, rfl⟩)) (by dsimp only [List.set]; try rfl) ?_
  refine q_is rfl rfl (does_move (u := (Iv 1)) (ev rfl)) (by dsimp only [List.set]; try rfl) ?_
  refine wpList_nil ?_
  refine un_step ?_
  refine wp_seq_k fun K221 hK221 => ?_
  refine wp_region_lit ?_
  refine q_is rfl rfl (does_icmp (p := 1) (q := 3) (.inr (.inr (.inl rfl))) (ev rfl) (ev rfl)) (by dsimp only [List.set]; try rfl) ?_
  refine wpList_nil (hK221 _ _ ?_)
  refine wp_seq_k fun K222 hK222 => ?_
  refine wp_cond_true (ev rfl) ?_
  refine wp_skip (hK222 _ _ ?_)
  refine wp_seq_k fun K223 hK223 => ?_
  refine wp_block ?_
  refine wp_seq_k fun K224 hK224 => ?_
  refine wp_region_lit ?_
  refine q_is rfl rfl (does_move (u := (Iv 1)) (ev rfl)) (by dsimp only [List.set]; try rfl) ?_
  refine q_is rfl rfl (does_assign (u := (Iv 1)) (ev rfl)) (by dsimp only [List.set]; try rfl) ?_
  refine wpList_nil (hK224 _ _ ?_)
  refine region_draw (
    [Fact.pure [] (fun v => v = (Iv 1)),
    Fact.flt [] (fun v => v = (Iv 1)),
    Fact.flt [] (fun v => v = (Iv 1)),
    Fact.pure [] (fun v => v = (Pt g_b g_o)),
    Fact.pure [] (fun v => v = (Iv 1)),
    Fact.pure [35] (fun v => v = (Pt b123 1)),
    Fact.pure [36] (fun v => v = (Fl r113)),
    Fact.pure [] (fun v => v = (Iv 1)),
    Fact.pure [38] (fun v => v = (Pt b133 1)),
    Fact.pure [39] (fun v => v = (Fl r119)),
    Fact.pure [] (fun v => v = (Iv 1)),
    Fact.pure [41] (fun v => v = (Pt b143 1)),
    Fact.pure [42] (fun v => v = (Iv A_g.y)),
    Fact.pure [34, 37, 40, 43] (fun v => ∃ r_1 : Nat, v = (.tuple #[(Iv (cellI (cf .f32 r113) (cf .f32 r119) A_g.step A_g.y)), (Iv (min (cellI (cf .f32 r113) (cf .f32 r119) A_g.step A_g.y + 1) (A_g.y - 1))), (Fl r_1)]) ∧ cf .f32 r_1 = cellF (cf .f32 r113) (cf .f32 r119) A_g.step A_g.y),
    Fact.pure [44] (fun v => ∃ r_1 : Nat, v = (.tuple #[(Iv (cellI (cf .f32 r113) (cf .f32 r119) A_g.step A_g.y)), (Iv (min (cellI (cf .f32 r113) (cf .f32 r119) A_g.step A_g.y + 1) (A_g.y - 1))), (Fl r_1)]) ∧ cf .f32 r_1 = cellF (cf .f32 r113) (cf .f32 r119) A_g.step A_g.y),
    Fact.pure [30] (fun v => v = (Iv (cellI (cf .f32 r113) (cf .f32 r119) A_g.step A_g.y))),
    Fact.flt [30] (fun v => v = (Iv (min (cellI (cf .f32 r113) (cf .f32 r119) A_g.step A_g.y + 1) (A_g.y - 1)))),
    Fact.flt [30] (fun v => ∃ r_1 : Nat, v = (Fl r_1) ∧ cf .f32 r_1 = cellF (cf .f32 r113) (cf .f32 r119) A_g.step A_g.y),
    Fact.pure [31] (fun v => v = (Pt b39 1))]) mixed (by kernel_rfl) (by intro _ _ d _ _ h; cases d <;> exact h) ?_
  obtain ⟨w225, hw227⟩ : ∃ w', w' = World.drew w219 := ⟨_, rfl⟩; rw [← hw227]; have E226 : Ext w219 w225 := by rw [hw227]; exact Ext.draw _
  clear hw227
  have X228 := Ext.gr X220 E226
  refine RW_d _ rfl (fun v => by dsimp only [List.set]; try rfl) (fun u hu hF => ?_) (fun v229 => ?_)
  · clear hF
    refine doesG_un rfl ?_
    refine (does_move (u := (Iv 1)) (ev rfl)).mono ?_; rintro _ _ ⟨rfl, rfl⟩
    exact ⟨rfl, Ext.refl _⟩
  refine RW_d _ rfl (fun v => by dsimp only [List.set]; try rfl) (fun u hu hF => ?_) (fun v230 => ?_)
  · clear hF
    exact ⟨_, yields_is rfl (run_move (ev rfl)), rfl⟩
  refine RW_d _ rfl (fun v => by dsimp only [List.set]; try rfl) (fun u hu hF => ?_) (fun v231 => ?_)
  · clear hF
    exact ⟨_, yields_is rfl (run_move (ev rfl)), rfl⟩
  refine RW_d _ rfl (fun v => by dsimp only [List.set]; try rfl) (fun u hu hF => ?_) (fun v232 => ?_)
  · clear hF
    refine doesG_un rfl ?_
    refine (does_load (u := (Pt g_b g_o)) (ev rfl) Try.isAgg45 (Cells.at (Blk.cells (((((((((((((((((((hB23.ext E32).ext E42).ext E52).ext E63).wr W72 (Nat.ne_of_lt n45)).wr W76 (Nat.ne_of_lt n55)).wr W80 (Nat.ne_of_lt n66)).ext E86).kl E102 nin0).wr W156 (Nat.ne_of_lt n127)).wr W160 (Nat.ne_of_lt n137)).wr W164 (Nat.ne_of_lt n147)).ext E175).ext E198).wr W209 (Nat.ne_of_lt n45)).wr W213 (Nat.ne_of_lt n55)).wr W217 (Nat.ne_of_lt n66)).ext E226).ext hu)) 0 rfl)).mono ?_; rintro _ _ ⟨rfl, rfl⟩
    exact ⟨rfl, Ext.refl _⟩
  refine RW_d _ rfl (fun v => by dsimp only [List.set]; try rfl) (fun u hu hF => ?_) (fun v233 => ?_)
  · clear hF
    refine doesG_un rfl ?_
    refine (does_move (u := (Iv 1)) (ev rfl)).mono ?_; rintro _ _ ⟨rfl, rfl⟩
    exact ⟨rfl, Ext.refl _⟩
  refine RW_d _ rfl (fun v => by dsimp only [List.set]; try rfl) (fun u hu hF => ?_) (fun v234 => ?_)
  · have h35_ : v233 = (Iv 1) := hF.1
    clear hF
    refine doesG_un rfl ?_
    obtain rfl := h35_
    refine (does_indexAt_run (r := (Pt b123 1)) (ev rfl) (ev rfl) (fun w => ia54_1 _ _ w)).mono ?_; rintro _ _ ⟨rfl, rfl⟩
    exact ⟨rfl, Ext.refl _⟩
  refine RW_d _ rfl (fun v => by dsimp only [List.set]; try rfl) (fun u hu hF => ?_) (fun v235 => ?_)
  · have h36_ : v234 = (Pt b123 1) := hF.1
    clear hF
    refine doesG_un rfl ?_
    obtain rfl := h36_
    refine (does_load (u := (Fl r113)) (ev rfl) Try.isAgg22 (Cells.at (Blk.cells (((((((((hB157.wr W160 (Ne.symm n153)).wr W164 (Ne.symm n154)).ext E175).ext E198).wr W209 (Nat.ne_of_gt n129)).wr W213 (Nat.ne_of_gt n130)).wr W217 (Nat.ne_of_gt n131)).ext E226).ext hu)) 1 rfl)).mono ?_; rintro _ _ ⟨rfl, rfl⟩
    exact ⟨rfl, Ext.refl _⟩
  refine RW_d _ rfl (fun v => by dsimp only [List.set]; try rfl) (fun u hu hF => ?_) (fun v236 => ?_)
  · clear hF
    refine doesG_un rfl ?_
    refine (does_move (u := (Iv 1)) (ev rfl)).mono ?_; rintro _ _ ⟨rfl, rfl⟩
    exact ⟨rfl, Ext.refl _⟩
  refine RW_d _ rfl (fun v => by dsimp only [List.set]; try rfl) (fun u hu hF => ?_) (fun v237 => ?_)
  · have h38_ : v236 = (Iv 1) := hF.1
    clear hF
    refine doesG_un rfl ?_
    obtain rfl := h38_
    refine (does_indexAt_run (r := (Pt b133 1)) (ev rfl) (ev rfl) (fun w => ia54_1 _ _ w)).mono ?_; rintro _ _ ⟨rfl, rfl⟩
    exact ⟨rfl, Ext.refl _⟩
  refine RW_d _ rfl (fun v => by dsimp only [List.set]; try rfl) (fun u hu hF => ?_) (fun v238 => ?_)
  · have h39_ : v237 = (Pt b133 1) := hF.1
    clear hF
    refine doesG_un rfl ?_
    obtain rfl := h39_
    refine (does_load (u := (Fl r119)) (ev rfl) Try.isAgg22 (Cells.at (Blk.cells ((((((((hB161.wr W164 (Ne.symm n155)).ext E175).ext E198).wr W209 (Nat.ne_of_gt n139)).wr W213 (Nat.ne_of_gt n140)).wr W217 (Nat.ne_of_gt n141)).ext E226).ext hu)) 1 rfl)).mono ?_; rintro _ _ ⟨rfl, rfl⟩
    exact ⟨rfl, Ext.refl _⟩
  refine RW_d _ rfl (fun v => by dsimp only [List.set]; try rfl) (fun u hu hF => ?_) (fun v239 => ?_)
  · clear hF
    refine doesG_un rfl ?_
    refine (does_move (u := (Iv 1)) (ev rfl)).mono ?_; rintro _ _ ⟨rfl, rfl⟩
    exact ⟨rfl, Ext.refl _⟩
  refine RW_d _ rfl (fun v => by dsimp only [List.set]; try rfl) (fun u hu hF => ?_) (fun v240 => ?_)
  · have h41_ : v239 = (Iv 1) := hF.1
    clear hF
    refine doesG_un rfl ?_
    obtain rfl := h41_
    refine (does_indexAt_run (r := (Pt b143 1)) (ev rfl) (ev rfl) (fun w => ia64_1 _ _ w)).mono ?_; rintro _ _ ⟨rfl, rfl⟩
    exact ⟨rfl, Ext.refl _⟩
  refine RW_d _ rfl (fun v => by dsimp only [List.set]; try rfl) (fun u hu hF => ?_) (fun v241 => ?_)
  · have h42_ : v240 = (Pt b143 1) := hF.1
    clear hF
    refine doesG_un rfl ?_
    obtain rfl := h42_
    refine (does_load (u := (Iv A_g.y)) (ev rfl) Try.isAgg2 (Cells.at (Blk.cells (((((((hB165.ext E175).ext E198).wr W209 (Nat.ne_of_gt n149)).wr W213 (Nat.ne_of_gt n150)).wr W217 (Nat.ne_of_gt n151)).ext E226).ext hu)) 1 rfl)).mono ?_; rintro _ _ ⟨rfl, rfl⟩
    exact ⟨rfl, Ext.refl _⟩
  refine RW_d _ rfl (fun v => by dsimp only [List.set]; try rfl) (fun u hu hF => ?_) (fun v242 => ?_)
  · have h34_ : v232 = (Pt g_b g_o) := hF.1
    have h37_ : v235 = (Fl r113) := hF.2.1
    have h40_ : v238 = (Fl r119) := hF.2.2.1
    have h43_ : v241 = (Iv A_g.y) := hF.2.2.2.1
    clear hF
    refine doesG_un rfl ?_
    obtain rfl := h34_
    obtain rfl := h37_
    obtain rfl := h40_
    obtain rfl := h43_
    refine (does_call (args := #[(Pt g_b g_o), (Fl r113), (Fl r119), (Iv A_g.y)]) cal38 (evs rfl) (c_impl_Grid_cell g_b g_o [(Fl r1), (Fl r3), (Fl r5), (Fl r7), (Iv A_g.x), (Iv A_g.y), (Iv A_g.z), (.slice p17 A_g.vals.length q18)] A_g r113 r119 A_g.y _ ((hc_g.ext (Ext.gr X220 E226)).ext hu) ⟨r1, r3, r5, r7, (.slice p17 A_g.vals.length q18), rfl, h2, h4, h6, h8, (Sl.ext (Sl.ext hs19 RF.mono (Ext.gr X220 E226)) RF.mono hu)⟩ (by simp only [h2, h4, h6, h8, h12, h14, h16, h112, h114, h116, h118, h120, h122, h208]; first | exact hix | exact hiy | exact hiz) (by omega))).mono ?_; rintro v u' ⟨hx, ⟨rn1, hv, k0⟩⟩
    exact ⟨⟨rn1, hv, (by simp only [k0])⟩, hx⟩
  refine RW_d _ rfl (fun v => by dsimp only [List.set]; try rfl) (fun u hu hF => ?_) (fun v243 => ?_)
  · have h44_ : ∃ r_1 : Nat, v242 = (.tuple #[(Iv (cellI (cf .f32 r113) (cf .f32 r119) A_g.step A_g.y)), (Iv (min (cellI (cf .f32 r113) (cf .f32 r119) A_g.step A_g.y + 1) (A_g.y - 1))), (Fl r_1)]) ∧ cf .f32 r_1 = cellF (cf .f32 r113) (cf .f32 r119) A_g.step A_g.y := hF.1
    clear hF
    refine doesG_un rfl ?_
    obtain ⟨r44_1, rfl, h44_2⟩ := h44_
    refine (does_move (u := (.tuple #[(Iv (cellI (cf .f32 r113) (cf .f32 r119) A_g.step A_g.y)), (Iv (min (cellI (cf .f32 r113) (cf .f32 r119) A_g.step A_g.y + 1) (A_g.y - 1))), (Fl r44_1)])) (ev rfl)).mono ?_; rintro _ _ ⟨rfl, rfl⟩
    exact ⟨⟨r44_1, rfl, (by simp only [h44_2])⟩, Ext.refl _⟩
  refine RW_d _ rfl (fun v => by dsimp only [List.set]; try rfl) (fun u hu hF => ?_) (fun v244 => ?_)
  · have h30_ : ∃ r_1 : Nat, v243 = (.tuple #[(Iv (cellI (cf .f32 r113) (cf .f32 r119) A_g.step A_g.y)), (Iv (min (cellI (cf .f32 r113) (cf .f32 r119) A_g.step A_g.y + 1) (A_g.y - 1))), (Fl r_1)]) ∧ cf .f32 r_1 = cellF (cf .f32 r113) (cf .f32 r119) A_g.step A_g.y := hF.1
    clear hF
    refine doesG_un rfl ?_
    obtain ⟨r30_1, rfl, h30_2⟩ := h30_
    refine (does_extract (vs := #[(Iv (cellI (cf .f32 r113) (cf .f32 r119) A_g.step A_g.y)), (Iv (min (cellI (cf .f32 r113) (cf .f32 r119) A_g.step A_g.y + 1) (A_g.y - 1))), (Fl r30_1)]) (u := (Iv (cellI (cf .f32 r113) (cf .f32 r119) A_g.step A_g.y))) (ev rfl) rfl).mono ?_; rintro _ _ ⟨rfl, rfl⟩
    exact ⟨rfl, Ext.refl _⟩
  refine RW_d _ rfl (fun v => by dsimp only [List.set]; try rfl) (fun u hu hF => ?_) (fun v245 => ?_)
  · have h30_ : ∃ r_1 : Nat, v243 = (.tuple #[(Iv (cellI (cf .f32 r113) (cf .f32 r119) A_g.step A_g.y)), (Iv (min (cellI (cf .f32 r113) (cf .f32 r119) A_g.step A_g.y + 1) (A_g.y - 1))), (Fl r_1)]) ∧ cf .f32 r_1 = cellF (cf .f32 r113) (cf .f32 r119) A_g.step A_g.y := hF.1
    clear hF
    obtain ⟨r30_1, rfl, h30_2⟩ := h30_
    exact ⟨_, yields_is rfl (run_extract (ev rfl) rfl), rfl⟩
  refine RW_d _ rfl (fun v => by dsimp only [List.set]; try rfl) (fun u hu hF => ?_) (fun v246 => ?_)
  · have h30_ : ∃ r_1 : Nat, v243 = (.tuple #[(Iv (cellI (cf .f32 r113) (cf .f32 r119) A_g.step A_g.y)), (Iv (min (cellI (cf .f32 r113) (cf .f32 r119) A_g.step A_g.y + 1) (A_g.y - 1))), (Fl r_1)]) ∧ cf .f32 r_1 = cellF (cf .f32 r113) (cf .f32 r119) A_g.step A_g.y := hF.1
    clear hF
    obtain ⟨r30_1, rfl, h30_2⟩ := h30_
    exact ⟨_, yields_is rfl (run_extract (ev rfl) rfl), ⟨r30_1, rfl, (by simp only [h30_2])⟩⟩
  refine RW_d _ rfl (fun v => by dsimp only [List.set]; try rfl) (fun u hu hF => ?_) (fun v247 => ?_)
  · have h31_ : v229 = (Iv 1) := hF.1
    clear hF
    refine doesG_un rfl ?_
    obtain rfl := h31_
    refine (does_indexAt_run (r := (Pt b39 1)) (ev rfl) (ev rfl) (fun w => ia64_1 _ _ w)).mono ?_; rintro _ _ ⟨rfl, rfl⟩
    exact ⟨rfl, Ext.refl _⟩
  refine RW_fin ?_; intro w248 E249 hP250
  obtain ⟨⟨⟨⟨⟨⟨⟨⟨⟨⟨⟨⟨⟨⟨⟨⟨⟨⟨⟨-, -⟩, q251⟩, q252⟩, -⟩, -⟩, -⟩, -⟩, -⟩, -⟩, -⟩, -⟩, -⟩, -⟩, -⟩, -⟩, q253⟩, q254⟩, q255⟩, q256⟩ := hP250
  have X257 := Ext.gr X228 E249
  have q251 : v230 = (Iv 1) := q251
  obtain rfl := q251
  have q252 : v231 = (Iv 1) := q252
  obtain rfl := q252
  have q253 : v244 = (Iv (cellI (cf .f32 r113) (cf .f32 r119) A_g.step A_g.y)) := q253
  obtain rfl := q253
  have q254 : v245 = (Iv (min (cellI (cf .f32 r113) (cf .f32 r119) A_g.step A_g.y + 1) (A_g.y - 1))) := q254
  obtain rfl := q254
  have q255 : ∃ r_1 : Nat, v246 = (Fl r_1) ∧ cf .f32 r_1 = cellF (cf .f32 r113) (cf .f32 r119) A_g.step A_g.y := q255
  obtain ⟨r258, rfl, h259⟩ := q255
  have q256 : v247 = (Pt b39 1) := q256
  obtain rfl := q256
  show wpList _ _ _ _ (fr [(Pt g_b g_o), (.agg #[(Fl r11), (Fl r13), (Fl r15)]), (Pt b21 0), (Pt b29 0), (Fl 0), (Pt b39 0), (Pt b49 0), (Pt b60 0), (Pt b123 0), (Pt b133 0), (Pt b143 0), (Iv 1), Ud, Ud, Ud, (.agg #[(Iv 0), (Iv 0), (Iv 0)]), (.agg #[(Iv 0), (Iv 0), (Iv 0)]), (.agg #[(Fl 0), (Fl 0), (Fl 0)]), v89, (.agg #[(Fl r111), (Fl r113), (Fl r115)]), v91, v92, v93, v94, (.agg #[(Fl r117), (Fl r119), (Fl r121)]), v96, (.agg #[(Iv A_g.x), (Iv A_g.y), (Iv A_g.z)]), (Iv 1), (Bo true), (Iv 1), v243, v229, (Iv 1), (Iv 1), v232, v233, v234, v235, v236, v237, v238, v239, v240, v241, v242, (Iv (cellI (cf .f32 r113) (cf .f32 r119) A_g.step A_g.y)), (Iv (min (cellI (cf .f32 r113) (cf .f32 r119) A_g.step A_g.y + 1) (A_g.y - 1))), (Fl r258), (Pt b39 1), (Pt b49 0), (Pt b60 0), (Iv 1), Ud, Ud, Ud, Ud, Ud, Ud, Ud, Ud, Ud, Ud, Ud, Ud, Ud, Ud]) _
  refine seqn rfl rfl (does_store (n := 1) (cs := [(Iv (cellI (cf .f32 r111) (cf .f32 r117) A_g.step A_g.x)), (Iv 0), (Iv 0)]) (u := (Iv (cellI (cf .f32 r113) (cf .f32 r119) A_g.step A_g.y))) (ev rfl) (ev rfl) Try.sizeOf2 rfl ((((hB210.wr W213 (Nat.ne_of_lt n57)).wr W217 (Nat.ne_of_lt n68)).ext E226).ext E249) (Nat.le_of_ble_eq_true rfl) rfl) ?_; rintro _ w262 ⟨rfl, W260, hB261⟩
  change Blk _ _ [(Iv (cellI (cf .f32 r111) (cf .f32 r117) A_g.step A_g.x)), (Iv (cellI (cf .f32 r113) (cf .f32 r119) A_g.step A_g.y)), (Iv 0)] at hB261
  have X263 := Below.wr X257 W260 g47
  refine q_is rfl rfl (does_indexAt_run (r := (Pt b49 1)) (ev rfl) (ev rfl) (fun w => ia64_1 _ _ w)) (by dsimp only [List.set]; try rfl) ?_
  refine seqn rfl rfl (does_store (n := 1) (cs := [(Iv (min (cellI (cf .f32 r111) (cf .f32 r117) A_g.step A_g.x + 1) (A_g.x - 1))), (Iv 0), (Iv 0)]) (u := (Iv (min (cellI (cf .f32 r113) (cf .f32 r119) A_g.step A_g.y + 1) (A_g.y - 1)))) (ev rfl) (ev rfl) Try.sizeOf2 rfl ((((hB214.wr W217 (Nat.ne_of_lt n69)).ext E226).ext E249).wr W260 (Nat.ne_of_gt n57)) (Nat.le_of_ble_eq_true rfl) rfl) ?_; rintro _ w266 ⟨rfl, W264, hB265⟩
  change Blk _ _ [(Iv (min (cellI (cf .f32 r111) (cf .f32 r117) A_g.step A_g.x + 1) (A_g.x - 1))), (Iv (min (cellI (cf .f32 r113) (cf .f32 r119) A_g.step A_g.y + 1) (A_g.y - 1))), (Iv 0)] at hB265
  have X267 := Below.wr X263 W264 g58
  refine q_is rfl rfl (does_indexAt_run (r := (Pt b60 1)) (ev rfl) (ev rfl) (fun w => ia54_1 _ _ w)) (by dsimp only [List.set]; try rfl) ?_
  refine seqn rfl rfl (does_store (n := 1) (cs := [(Fl r207), (Fl 0), (Fl 0)]) (u := (Fl r258)) (ev rfl) (ev rfl) Try.sizeOf22 rfl ((((hB218.ext E226).ext E249).wr W260 (Nat.ne_of_gt n68)).wr W264 (Nat.ne_of_gt n69)) (Nat.le_of_ble_eq_true rfl) rfl) ?_; rintro _ w270 ⟨rfl, W268, hB269⟩
  change Blk _ _ [(Fl r207), (Fl r258), (Fl 0)] at hB269
  have X271 := Below.wr X267 W268 g70
  refine wpList_nil (hK223 _ _ ?_)
  refine wp_region_lit ?_
  refine q_is rfl rfl (does_iarith (p := 1) (q := 1) (r := (2)) (ev rfl) (ev rfl) (.inl ⟨rfl, rfl⟩)) (by dsimp only [List.set]; try rfl) ?_
  refine q_is rfl rfl (does_move (u := (Iv 2)) (ev rfl)) (by dsimp only [List.set]; try rfl) ?_
  refine wpList_nil ?_
  refine un_step ?_
  refine wp_seq_k fun K272 hK272 => ?_
  refine wp_region_lit ?_
  refine q_is rfl rfl (does_icmp (p := 2) (q := 3) (.inr (.inr (.inl rfl))) (ev rfl) (ev rfl)) (by dsimp only [List.set]; try rfl) ?_
  refine wpList_nil (hK272 _ _ ?_)
  refine wp_seq_k fun K273 hK273 => ?_
  refine wp_cond_true (ev rfl) ?_
  refine wp_skip (hK273 _ _ ?_)
  refine wp_seq_k fun K274 hK274 => ?_
  refine wp_block ?_
  refine wp_seq_k fun K275 hK275 => ?_
  refine wp_region_lit ?_
  refine q_is rfl rfl (does_move (u := (Iv 2)) (ev rfl)) (by dsimp only [List.set]; try rfl) ?_
  refine q_is rfl rfl (does_assign (u := (Iv 2)) (ev rfl)) (by dsimp only [List.set]; try rfl) ?_
  refine wpList_nil (hK275 _ _ ?_)
  refine region_draw (
    [Fact.pure [] (fun v => v = (Iv 2)),
    Fact.flt [] (fun v => v = (Iv 2)),
    Fact.flt [] (fun v => v = (Iv 2)),
    Fact.pure [] (fun v => v = (Pt g_b g_o)),
    Fact.pure [] (fun v => v = (Iv 2)),
    Fact.pure [35] (fun v => v = (Pt b123 2)),
    Fact.pure [36] (fun v => v = (Fl r115)),
    Fact.pure [] (fun v => v = (Iv 2)),
    Fact.pure [38] (fun v => v = (Pt b133 2)),
    Fact.pure [39] (fun v => v = (Fl r121)),
    Fact.pure [] (fun v => v = (Iv 2)),
    Fact.pure [41] (fun v => v = (Pt b143 2)),
    Fact.pure [42] (fun v => v = (Iv A_g.z)),
    Fact.pure [34, 37, 40, 43] (fun v => ∃ r_1 : Nat, v = (.tuple #[(Iv (cellI (cf .f32 r115) (cf .f32 r121) A_g.step A_g.z)), (Iv (min (cellI (cf .f32 r115) (cf .f32 r121) A_g.step A_g.z + 1) (A_g.z - 1))), (Fl r_1)]) ∧ cf .f32 r_1 = cellF (cf .f32 r115) (cf .f32 r121) A_g.step A_g.z),
    Fact.pure [44] (fun v => ∃ r_1 : Nat, v = (.tuple #[(Iv (cellI (cf .f32 r115) (cf .f32 r121) A_g.step A_g.z)), (Iv (min (cellI (cf .f32 r115) (cf .f32 r121) A_g.step A_g.z + 1) (A_g.z - 1))), (Fl r_1)]) ∧ cf .f32 r_1 = cellF (cf .f32 r115) (cf .f32 r121) A_g.step A_g.z),
    Fact.pure [30] (fun v => v = (Iv (cellI (cf .f32 r115) (cf .f32 r121) A_g.step A_g.z))),
    Fact.flt [30] (fun v => v = (Iv (min (cellI (cf .f32 r115) (cf .f32 r121) A_g.step A_g.z + 1) (A_g.z - 1)))),
    Fact.flt [30] (fun v => ∃ r_1 : Nat, v = (Fl r_1) ∧ cf .f32 r_1 = cellF (cf .f32 r115) (cf .f32 r121) A_g.step A_g.z),
    Fact.pure [31] (fun v => v = (Pt b39 2))]) mixed (by kernel_rfl) (by intro _ _ d _ _ h; cases d <;> exact h) ?_
  obtain ⟨w276, hw278⟩ : ∃ w', w' = World.drew w270 := ⟨_, rfl⟩; rw [← hw278]; have E277 : Ext w270 w276 := by rw [hw278]; exact Ext.draw _
  clear hw278
  have X279 := Ext.gr X271 E277
  refine RW_d _ rfl (fun v => by dsimp only [List.set]; try rfl) (fun u hu hF => ?_) (fun v280 => ?_)
  · clear hF
    refine doesG_un rfl ?_
    refine (does_move (u := (Iv 2)) (ev rfl)).mono ?_; rintro _ _ ⟨rfl, rfl⟩
    exact ⟨rfl, Ext.refl _⟩
  refine RW_d _ rfl (fun v => by dsimp only [List.set]; try rfl) (fun u hu hF => ?_) (fun v281 => ?_)
  · clear hF
    exact ⟨_, yields_is rfl (run_move (ev rfl)), rfl⟩
  refine RW_d _ rfl (fun v => by dsimp only [List.set]; try rfl) (fun u hu hF => ?_) (fun v282 => ?_)
  · clear hF
    exact ⟨_, yields_is rfl (run_move (ev rfl)), rfl⟩
  refine RW_d _ rfl (fun v => by dsimp only [List.set]; try rfl) (fun u hu hF => ?_) (fun v283 => ?_)
  · clear hF
    refine doesG_un rfl ?_
    refine (does_load (u := (Pt g_b g_o)) (ev rfl) Try.isAgg45 (Cells.at (Blk.cells ((((((((((((((((((((((((hB23.ext E32).ext E42).ext E52).ext E63).wr W72 (Nat.ne_of_lt n45)).wr W76 (Nat.ne_of_lt n55)).wr W80 (Nat.ne_of_lt n66)).ext E86).kl E102 nin0).wr W156 (Nat.ne_of_lt n127)).wr W160 (Nat.ne_of_lt n137)).wr W164 (Nat.ne_of_lt n147)).ext E175).ext E198).wr W209 (Nat.ne_of_lt n45)).wr W213 (Nat.ne_of_lt n55)).wr W217 (Nat.ne_of_lt n66)).ext E226).ext E249).wr W260 (Nat.ne_of_lt n45)).wr W264 (Nat.ne_of_lt n55)).wr W268 (Nat.ne_of_lt n66)).ext E277).ext hu)) 0 rfl)).mono ?_; rintro _ _ ⟨rfl, rfl⟩
    exact ⟨rfl, Ext.refl _⟩
  refine RW_d _ rfl (fun v => by dsimp only [List.set]; try rfl) (fun u hu hF => ?_) (fun v284 => ?_)
  · clear hF
    refine doesG_un rfl ?_
    refine (does_move (u := (Iv 2)) (ev rfl)).mono ?_; rintro _ _ ⟨rfl, rfl⟩
    exact ⟨rfl, Ext.refl _⟩
  refine RW_d _ rfl (fun v => by dsimp only [List.set]; try rfl) (fun u hu hF => ?_) (fun v285 => ?_)
  · have h35_ : v284 = (Iv 2) := hF.1
    clear hF
    refine doesG_un rfl ?_
    obtain rfl := h35_
    refine (does_indexAt_run (r := (Pt b123 2)) (ev rfl) (ev rfl) (fun w => ia54_2 _ _ w)).mono ?_; rintro _ _ ⟨rfl, rfl⟩
    exact ⟨rfl, Ext.refl _⟩
  refine RW_d _ rfl (fun v => by dsimp only [List.set]; try rfl) (fun u hu hF => ?_) (fun v286 => ?_)
  · have h36_ : v285 = (Pt b123 2) := hF.1
    clear hF
    refine doesG_un rfl ?_
    obtain rfl := h36_
    refine (does_load (u := (Fl r115)) (ev rfl) Try.isAgg22 (Cells.at (Blk.cells ((((((((((((((hB157.wr W160 (Ne.symm n153)).wr W164 (Ne.symm n154)).ext E175).ext E198).wr W209 (Nat.ne_of_gt n129)).wr W213 (Nat.ne_of_gt n130)).wr W217 (Nat.ne_of_gt n131)).ext E226).ext E249).wr W260 (Nat.ne_of_gt n129)).wr W264 (Nat.ne_of_gt n130)).wr W268 (Nat.ne_of_gt n131)).ext E277).ext hu)) 2 rfl)).mono ?_; rintro _ _ ⟨rfl, rfl⟩
    exact ⟨rfl, Ext.refl _⟩
  refine RW_d _ rfl (fun v => by dsimp only [List.set]; try rfl) (fun u hu hF => ?_) (fun v287 => ?_)
  · clear hF
    refine doesG_un rfl ?_
    refine (does_move (u := (Iv 2)) (ev rfl)).mono ?_; rintro _ _ ⟨rfl, rfl⟩
    exact ⟨rfl, Ext.refl _⟩
  refine RW_d _ rfl (fun v => by dsimp only [List.set]; try rfl) (fun u hu hF => ?_) (fun v288 => ?_)
  · have h38_ : v287 = (Iv 2) := hF.1
    clear hF
    refine doesG_un rfl ?_
    obtain rfl := h38_
    refine (does_indexAt_run (r := (Pt b133 2)) (ev rfl) (ev rfl) (fun w => ia54_2 _ _ w)).mono ?_; rintro _ _ ⟨rfl, rfl⟩
    exact ⟨rfl, Ext.refl _⟩
  refine RW_d _ rfl (fun v => by dsimp only [List.set]; try rfl) (fun u hu hF => ?_) (fun v289 => ?_)
  · have h39_ : v288 = (Pt b133 2) := hF.1
    clear hF
    refine doesG_un rfl ?_
    obtain rfl := h39_
    refine (does_load (u := (Fl r121)) (ev rfl) Try.isAgg22 (Cells.at (Blk.cells (((((((((((((hB161.wr W164 (Ne.symm n155)).ext E175).ext E198).wr W209 (Nat.ne_of_gt n139)).wr W213 (Nat.ne_of_gt n140)).wr W217 (Nat.ne_of_gt n141)).ext E226).ext E249).wr W260 (Nat.ne_of_gt n139)).wr W264 (Nat.ne_of_gt n140)).wr W268 (Nat.ne_of_gt n141)).ext E277).ext hu)) 2 rfl)).mono ?_; rintro _ _ ⟨rfl, rfl⟩
    exact ⟨rfl, Ext.refl _⟩
  refine RW_d _ rfl (fun v => by dsimp only [List.set]; try rfl) (fun u hu hF => ?_) (fun v290 => ?_)
  · clear hF
    refine doesG_un rfl ?_
    refine (does_move (u := (Iv 2)) (ev rfl)).mono ?_; rintro _ _ ⟨rfl, rfl⟩
    exact ⟨rfl, Ext.refl _⟩
  refine RW_d _ rfl (fun v => by dsimp only [List.set]; try rfl) (fun u hu hF => ?_) (fun v291 => ?_)
  · have h41_ : v290 = (Iv 2) := hF.1
    clear hF
    refine doesG_un rfl ?_
    obtain rfl := h41_
    refine (does_indexAt_run (r := (Pt b143 2)) (ev rfl) (ev rfl) (fun w => ia64_2 _ _ w)).mono ?_; rintro _ _ ⟨rfl, rfl⟩
    exact ⟨rfl, Ext.refl _⟩
  refine RW_d _ rfl (fun v => by dsimp only [List.set]; try rfl) (fun u hu hF => ?_) (fun v292 => ?_)
  · have h42_ : v291 = (Pt b143 2) := hF.1
    clear hF
    refine doesG_un rfl ?_
    obtain rfl := h42_
    refine (does_load (u := (Iv A_g.z)) (ev rfl) Try.isAgg2 (Cells.at (Blk.cells ((((((((((((hB165.ext E175).ext E198).wr W209 (Nat.ne_of_gt n149)).wr W213 (Nat.ne_of_gt n150)).wr W217 (Nat.ne_of_gt n151)).ext E226).ext E249).wr W260 (Nat.ne_of_gt n149)).wr W264 (Nat.ne_of_gt n150)).wr W268 (Nat.ne_of_gt n151)).ext E277).ext hu)) 2 rfl)).mono ?_; rintro _ _ ⟨rfl, rfl⟩
    exact ⟨rfl, Ext.refl _⟩
  refine RW_d _ rfl (fun v => by dsimp only [List.set]; try rfl) (fun u hu hF => ?_) (fun v293 => ?_)
  · have h34_ : v283 = (Pt g_b g_o) := hF.1
    have h37_ : v286 = (Fl r115) := hF.2.1
    have h40_ : v289 = (Fl r121) := hF.2.2.1
    have h43_ : v292 = (Iv A_g.z) := hF.2.2.2.1
    clear hF
    refine doesG_un rfl ?_
    obtain rfl := h34_
    obtain rfl := h37_
    obtain rfl := h40_
    obtain rfl := h43_
    refine (does_call (args := #[(Pt g_b g_o), (Fl r115), (Fl r121), (Iv A_g.z)]) cal38 (evs rfl) (c_impl_Grid_cell g_b g_o [(Fl r1), (Fl r3), (Fl r5), (Fl r7), (Iv A_g.x), (Iv A_g.y), (Iv A_g.z), (.slice p17 A_g.vals.length q18)] A_g r115 r121 A_g.z _ ((hc_g.ext (Ext.gr X271 E277)).ext hu) ⟨r1, r3, r5, r7, (.slice p17 A_g.vals.length q18), rfl, h2, h4, h6, h8, (Sl.ext (Sl.ext hs19 RF.mono (Ext.gr X271 E277)) RF.mono hu)⟩ (by simp only [h2, h4, h6, h8, h12, h14, h16, h112, h114, h116, h118, h120, h122, h208, h259]; first | exact hix | exact hiy | exact hiz) (by omega))).mono ?_; rintro v u' ⟨hx, ⟨rn1, hv, k0⟩⟩
    exact ⟨⟨rn1, hv, (by simp only [k0])⟩, hx⟩
  refine RW_d _ rfl (fun v => by dsimp only [List.set]; try rfl) (fun u hu hF => ?_) (fun v294 => ?_)
  · have h44_ : ∃ r_1 : Nat, v293 = (.tuple #[(Iv (cellI (cf .f32 r115) (cf .f32 r121) A_g.step A_g.z)), (Iv (min (cellI (cf .f32 r115) (cf .f32 r121) A_g.step A_g.z + 1) (A_g.z - 1))), (Fl r_1)]) ∧ cf .f32 r_1 = cellF (cf .f32 r115) (cf .f32 r121) A_g.step A_g.z := hF.1
    clear hF
    refine doesG_un rfl ?_
    obtain ⟨r44_1, rfl, h44_2⟩ := h44_
    refine (does_move (u := (.tuple #[(Iv (cellI (cf .f32 r115) (cf .f32 r121) A_g.step A_g.z)), (Iv (min (cellI (cf .f32 r115) (cf .f32 r121) A_g.step A_g.z + 1) (A_g.z - 1))), (Fl r44_1)])) (ev rfl)).mono ?_; rintro _ _ ⟨rfl, rfl⟩
    exact ⟨⟨r44_1, rfl, (by simp only [h44_2])⟩, Ext.refl _⟩
  refine RW_d _ rfl (fun v => by dsimp only [List.set]; try rfl) (fun u hu hF => ?_) (fun v295 => ?_)
  · have h30_ : ∃ r_1 : Nat, v294 = (.tuple #[(Iv (cellI (cf .f32 r115) (cf .f32 r121) A_g.step A_g.z)), (Iv (min (cellI (cf .f32 r115) (cf .f32 r121) A_g.step A_g.z + 1) (A_g.z - 1))), (Fl r_1)]) ∧ cf .f32 r_1 = cellF (cf .f32 r115) (cf .f32 r121) A_g.step A_g.z := hF.1
    clear hF
    refine doesG_un rfl ?_
    obtain ⟨r30_1, rfl, h30_2⟩ := h30_
    refine (does_extract (vs := #[(Iv (cellI (cf .f32 r115) (cf .f32 r121) A_g.step A_g.z)), (Iv (min (cellI (cf .f32 r115) (cf .f32 r121) A_g.step A_g.z + 1) (A_g.z - 1))), (Fl r30_1)]) (u := (Iv (cellI (cf .f32 r115) (cf .f32 r121) A_g.step A_g.z))) (ev rfl) rfl).mono ?_; rintro _ _ ⟨rfl, rfl⟩
    exact ⟨rfl, Ext.refl _⟩
  refine RW_d _ rfl (fun v => by dsimp only [List.set]; try rfl) (fun u hu hF => ?_) (fun v296 => ?_)
  · have h30_ : ∃ r_1 : Nat, v294 = (.tuple #[(Iv (cellI (cf .f32 r115) (cf .f32 r121) A_g.step A_g.z)), (Iv (min (cellI (cf .f32 r115) (cf .f32 r121) A_g.step A_g.z + 1) (A_g.z - 1))), (Fl r_1)]) ∧ cf .f32 r_1 = cellF (cf .f32 r115) (cf .f32 r121) A_g.step A_g.z := hF.1
    clear hF
    obtain ⟨r30_1, rfl, h30_2⟩ := h30_
    exact ⟨_, yields_is rfl (run_extract (ev rfl) rfl), rfl⟩
  refine RW_d _ rfl (fun v => by dsimp only [List.set]; try rfl) (fun u hu hF => ?_) (fun v297 => ?_)
  · have h30_ : ∃ r_1 : Nat, v294 = (.tuple #[(Iv (cellI (cf .f32 r115) (cf .f32 r121) A_g.step A_g.z)), (Iv (min (cellI (cf .f32 r115) (cf .f32 r121) A_g.step A_g.z + 1) (A_g.z - 1))), (Fl r_1)]) ∧ cf .f32 r_1 = cellF (cf .f32 r115) (cf .f32 r121) A_g.step A_g.z := hF.1
    clear hF
    obtain ⟨r30_1, rfl, h30_2⟩ := h30_
    exact ⟨_, yields_is rfl (run_extract (ev rfl) rfl), ⟨r30_1, rfl, (by simp only [h30_2])⟩⟩
  refine RW_d _ rfl (fun v => by dsimp only [List.set]; try rfl) (fun u hu hF => ?_) (fun v298 => ?_)
  · have h31_ : v280 = (Iv 2) := hF.1
    clear hF
    refine doesG_un rfl ?_
    obtain rfl := h31_
    refine (does_indexAt_run (r := (Pt b39 2)) (ev rfl) (ev rfl) (fun w => ia64_2 _ _ w)).mono ?_; rintro _ _ ⟨rfl, rfl⟩
    exact ⟨rfl, Ext.refl _⟩
  refine RW_fin ?_; intro w299 E300 hP301
  obtain ⟨⟨⟨⟨⟨⟨⟨⟨⟨⟨⟨⟨⟨⟨⟨⟨⟨⟨⟨-, -⟩, q302⟩, q303⟩, -⟩, -⟩, -⟩, -⟩, -⟩, -⟩, -⟩, -⟩, -⟩, -⟩, -⟩, -⟩, q304⟩, q305⟩, q306⟩, q307⟩ := hP301
  have X308 := Ext.gr X279 E300
  have q302 : v281 = (Iv 2) := q302
  obtain rfl := q302
  have q303 : v282 = (Iv 2) := q303
  obtain rfl := q303
  have q304 : v295 = (Iv (cellI (cf .f32 r115) (cf .f32 r121) A_g.step A_g.z)) := q304
  obtain rfl := q304
  have q305 : v296 = (Iv (min (cellI (cf .f32 r115) (cf .f32 r121) A_g.step A_g.z + 1) (A_g.z - 1))) := q305
  obtain rfl := q305
  have q306 : ∃ r_1 : Nat, v297 = (Fl r_1) ∧ cf .f32 r_1 = cellF (cf .f32 r115) (cf .f32 r121) A_g.step A_g.z := q306
  obtain ⟨r309, rfl, h310⟩ := q306
  have q307 : v298 = (Pt b39 2) := q307
  obtain rfl := q307
  show wpList _ _ _ _ (fr [(Pt g_b g_o), (.agg #[(Fl r11), (Fl r13), (Fl r15)]), (Pt b21 0), (Pt b29 0), (Fl 0), (Pt b39 0), (Pt b49 0), (Pt b60 0), (Pt b123 0), (Pt b133 0), (Pt b143 0), (Iv 2), Ud, Ud, Ud, (.agg #[(Iv 0), (Iv 0), (Iv 0)]), (.agg #[(Iv 0), (Iv 0), (Iv 0)]), (.agg #[(Fl 0), (Fl 0), (Fl 0)]), v89, (.agg #[(Fl r111), (Fl r113), (Fl r115)]), v91, v92, v93, v94, (.agg #[(Fl r117), (Fl r119), (Fl r121)]), v96, (.agg #[(Iv A_g.x), (Iv A_g.y), (Iv A_g.z)]), (Iv 2), (Bo true), (Iv 2), v294, v280, (Iv 2), (Iv 2), v283, v284, v285, v286, v287, v288, v289, v290, v291, v292, v293, (Iv (cellI (cf .f32 r115) (cf .f32 r121) A_g.step A_g.z)), (Iv (min (cellI (cf .f32 r115) (cf .f32 r121) A_g.step A_g.z + 1) (A_g.z - 1))), (Fl r309), (Pt b39 2), (Pt b49 1), (Pt b60 1), (Iv 2), Ud, Ud, Ud, Ud, Ud, Ud, Ud, Ud, Ud, Ud, Ud, Ud, Ud, Ud]) _
  refine seqn rfl rfl (does_store (n := 1) (cs := [(Iv (cellI (cf .f32 r111) (cf .f32 r117) A_g.step A_g.x)), (Iv (cellI (cf .f32 r113) (cf .f32 r119) A_g.step A_g.y)), (Iv 0)]) (u := (Iv (cellI (cf .f32 r115) (cf .f32 r121) A_g.step A_g.z))) (ev rfl) (ev rfl) Try.sizeOf2 rfl ((((hB261.wr W264 (Nat.ne_of_lt n57)).wr W268 (Nat.ne_of_lt n68)).ext E277).ext E300) (Nat.le_of_ble_eq_true rfl) rfl) ?_; rintro _ w313 ⟨rfl, W311, hB312⟩
  change Blk _ _ [(Iv (cellI (cf .f32 r111) (cf .f32 r117) A_g.step A_g.x)), (Iv (cellI (cf .f32 r113) (cf .f32 r119) A_g.step A_g.y)), (Iv (cellI (cf .f32 r115) (cf .f32 r121) A_g.step A_g.z))] at hB312
  have X314 := Below.wr X308 W311 g47
  refine q_is rfl rfl (does_indexAt_run (r := (Pt b49 2)) (ev rfl) (ev rfl) (fun w => ia64_2 _ _ w)) (by dsimp only [List.set]; try rfl) ?_
  refine seqn rfl rfl (does_store (n := 1) (cs := [(Iv (min (cellI (cf .f32 r111) (cf .f32 r117) A_g.step A_g.x + 1) (A_g.x - 1))), (Iv (min (cellI (cf .f32 r113) (cf .f32 r119) A_g.step A_g.y + 1) (A_g.y - 1))), (Iv 0)]) (u := (Iv (min (cellI (cf .f32 r115) (cf .f32 r121) A_g.step A_g.z + 1) (A_g.z - 1)))) (ev rfl) (ev rfl) Try.sizeOf2 rfl ((((hB265.wr W268 (Nat.ne_of_lt n69)).ext E277).ext E300).wr W311 (Nat.ne_of_gt n57)) (Nat.le_of_ble_eq_true rfl) rfl) ?_; rintro _ w317 ⟨rfl, W315, hB316⟩
  change Blk _ _ [(Iv (min (cellI (cf .f32 r111) (cf .f32 r117) A_g.step A_g.x + 1) (A_g.x - 1))), (Iv (min (cellI (cf .f32 r113) (cf .f32 r119) A_g.step A_g.y + 1) (A_g.y - 1))), (Iv (min (cellI (cf .f32 r115) (cf .f32 r121) A_g.step A_g.z + 1) (A_g.z - 1)))] at hB316
  have X318 := Below.wr X314 W315 g58
  refine q_is rfl rfl (does_indexAt_run (r := (Pt b60 2)) (ev rfl) (ev rfl) (fun w => ia54_2 _ _ w)) (by dsimp only [List.set]; try rfl) ?_
  refine seqn rfl rfl (does_store (n := 1) (cs := [(Fl r207), (Fl r258), (Fl 0)]) (u := (Fl r309)) (ev rfl) (ev rfl) Try.sizeOf22 rfl ((((hB269.ext E277).ext E300).wr W311 (Nat.ne_of_gt n68)).wr W315 (Nat.ne_of_gt n69)) (Nat.le_of_ble_eq_true rfl) rfl) ?_; rintro _ w321 ⟨rfl, W319, hB320⟩
  change Blk _ _ [(Fl r207), (Fl r258), (Fl r309)] at hB320
  have X322 := Below.wr X318 W319 g70
  refine wpList_nil (hK274 _ _ ?_)
  refine wp_region_lit ?_
  refine q_is rfl rfl (does_iarith (p := 2) (q := 1) (r := (3)) (ev rfl) (ev rfl) (.inl ⟨rfl, rfl⟩)) (by dsimp only [List.set]; try rfl) ?_
  refine q_is rfl rfl (does_move (u := (Iv 3)) (ev rfl)) (by dsimp only [List.set]; try rfl) ?_
  refine wpList_nil ?_
  refine un_step ?_
  refine wp_seq_k fun K323 hK323 => ?_
  refine wp_region_lit ?_
  refine q_is rfl rfl (does_icmp (p := 3) (q := 3) (.inr (.inr (.inl rfl))) (ev rfl) (ev rfl)) (by dsimp only [List.set]; try rfl) ?_
  refine wpList_nil (hK323 _ _ ?_)
  refine wp_seq_k fun K324 hK324 => ?_
  refine wp_cond_false (ev rfl) ?_
  refine wp_exit ?_
  refine hK168 _ _ ?_
  refine wp_seq_k fun K325 hK325 => ?_
  refine wp_region_lit ?_
  refine seqd rfl rfl (does_alloc z63) ?_; rintro _ w330 ⟨b326, rfl, hb327, hB328, E329⟩
  have n331 : g_b < b326 := Nat.lt_of_lt_of_le (cell_lt (Cells.at (hc_g.ext X322) 0 rfl)) hb327
  have n332 : b21 < b326 := Nat.lt_of_lt_of_le (Blk.lt (((((((((((((((((((((((((((hB23.ext E32).ext E42).ext E52).ext E63).wr W72 (Nat.ne_of_lt n45)).wr W76 (Nat.ne_of_lt n55)).wr W80 (Nat.ne_of_lt n66)).ext E86).kl E102 nin0).wr W156 (Nat.ne_of_lt n127)).wr W160 (Nat.ne_of_lt n137)).wr W164 (Nat.ne_of_lt n147)).ext E175).ext E198).wr W209 (Nat.ne_of_lt n45)).wr W213 (Nat.ne_of_lt n55)).wr W217 (Nat.ne_of_lt n66)).ext E226).ext E249).wr W260 (Nat.ne_of_lt n45)).wr W264 (Nat.ne_of_lt n55)).wr W268 (Nat.ne_of_lt n66)).ext E277).ext E300).wr W311 (Nat.ne_of_lt n45)).wr W315 (Nat.ne_of_lt n55)).wr W319 (Nat.ne_of_lt n66))) hb327
  have n333 : b29 < b326 := Nat.lt_of_lt_of_le (Blk.lt ((((((((((((((((((((((((((hB31.ext E42).ext E52).ext E63).wr W72 (Nat.ne_of_lt n46)).wr W76 (Nat.ne_of_lt n56)).wr W80 (Nat.ne_of_lt n67)).ext E86).kl E102 nin0).wr W156 (Nat.ne_of_lt n128)).wr W160 (Nat.ne_of_lt n138)).wr W164 (Nat.ne_of_lt n148)).ext E175).ext E198).wr W209 (Nat.ne_of_lt n46)).wr W213 (Nat.ne_of_lt n56)).wr W217 (Nat.ne_of_lt n67)).ext E226).ext E249).wr W260 (Nat.ne_of_lt n46)).wr W264 (Nat.ne_of_lt n56)).wr W268 (Nat.ne_of_lt n67)).ext E277).ext E300).wr W311 (Nat.ne_of_lt n46)).wr W315 (Nat.ne_of_lt n56)).wr W319 (Nat.ne_of_lt n67))) hb327
  have n334 : b123 < b326 := Nat.lt_of_lt_of_le (Blk.lt (((((((((((((((((hB157.wr W160 (Ne.symm n153)).wr W164 (Ne.symm n154)).ext E175).ext E198).wr W209 (Nat.ne_of_gt n129)).wr W213 (Nat.ne_of_gt n130)).wr W217 (Nat.ne_of_gt n131)).ext E226).ext E249).wr W260 (Nat.ne_of_gt n129)).wr W264 (Nat.ne_of_gt n130)).wr W268 (Nat.ne_of_gt n131)).ext E277).ext E300).wr W311 (Nat.ne_of_gt n129)).wr W315 (Nat.ne_of_gt n130)).wr W319 (Nat.ne_of_gt n131))) hb327
  have n335 : b133 < b326 := Nat.lt_of_lt_of_le (Blk.lt ((((((((((((((((hB161.wr W164 (Ne.symm n155)).ext E175).ext E198).wr W209 (Nat.ne_of_gt n139)).wr W213 (Nat.ne_of_gt n140)).wr W217 (Nat.ne_of_gt n141)).ext E226).ext E249).wr W260 (Nat.ne_of_gt n139)).wr W264 (Nat.ne_of_gt n140)).wr W268 (Nat.ne_of_gt n141)).ext E277).ext E300).wr W311 (Nat.ne_of_gt n139)).wr W315 (Nat.ne_of_gt n140)).wr W319 (Nat.ne_of_gt n141))) hb327
  have n336 : b143 < b326 := Nat.lt_of_lt_of_le (Blk.lt (((((((((((((((hB165.ext E175).ext E198).wr W209 (Nat.ne_of_gt n149)).wr W213 (Nat.ne_of_gt n150)).wr W217 (Nat.ne_of_gt n151)).ext E226).ext E249).wr W260 (Nat.ne_of_gt n149)).wr W264 (Nat.ne_of_gt n150)).wr W268 (Nat.ne_of_gt n151)).ext E277).ext E300).wr W311 (Nat.ne_of_gt n149)).wr W315 (Nat.ne_of_gt n150)).wr W319 (Nat.ne_of_gt n151))) hb327
  have n337 : b39 < b326 := Nat.lt_of_lt_of_le (Blk.lt ((hB312.wr W315 (Nat.ne_of_lt n57)).wr W319 (Nat.ne_of_lt n68))) hb327
  have n338 : b49 < b326 := Nat.lt_of_lt_of_le (Blk.lt (hB316.wr W319 (Nat.ne_of_lt n69))) hb327
  have n339 : b60 < b326 := Nat.lt_of_lt_of_le (Blk.lt hB320) hb327
  have g340 : w.heap.size ≤ b326 := Nat.le_trans (Below.size X322) hb327
  change Blk _ _ [.nilFunc] at hB328
  have X341 := Ext.gr X322 E329
  show wpList _ _ _ _ (fr [(Pt g_b g_o), (.agg #[(Fl r11), (Fl r13), (Fl r15)]), (Pt b21 0), (Pt b29 0), (Fl 0), (Pt b39 0), (Pt b49 0), (Pt b60 0), (Pt b123 0), (Pt b133 0), (Pt b143 0), (Iv 2), (Pt b326 0), Ud, Ud, (.agg #[(Iv 0), (Iv 0), (Iv 0)]), (.agg #[(Iv 0), (Iv 0), (Iv 0)]), (.agg #[(Fl 0), (Fl 0), (Fl 0)]), v89, (.agg #[(Fl r111), (Fl r113), (Fl r115)]), v91, v92, v93, v94, (.agg #[(Fl r117), (Fl r119), (Fl r121)]), v96, (.agg #[(Iv A_g.x), (Iv A_g.y), (Iv A_g.z)]), (Iv 3), (Bo false), (Iv 2), v294, v280, (Iv 2), (Iv 2), v283, v284, v285, v286, v287, v288, v289, v290, v291, v292, v293, (Iv (cellI (cf .f32 r115) (cf .f32 r121) A_g.step A_g.z)), (Iv (min (cellI (cf .f32 r115) (cf .f32 r121) A_g.step A_g.z + 1) (A_g.z - 1))), (Fl r309), (Pt b39 2), (Pt b49 2), (Pt b60 2), (Iv 3), Ud, Ud, Ud, Ud, Ud, Ud, Ud, Ud, Ud, Ud, Ud, Ud, Ud, Ud]) _
  refine seqn rfl rfl (does_store (n := 1) (cs := [.nilFunc]) (u := (.func (.func 39) #[] #[])) (ev rfl) (ev rfl) Try.sizeOf63 rfl hB328 (Nat.le_of_ble_eq_true rfl) rfl) ?_; rintro _ w344 ⟨rfl, W342, hB343⟩
  change Blk _ _ [(.func (.func 39) #[] #[])] at hB343
  have X345 := Below.wr X341 W342 g340
  refine wpList_nil (hK325 _ _ ?_)
  refine wp_seq_k fun K346 hK346 => ?_
  refine wp_region_lit ?_
  refine q_is rfl rfl (does_makeFunc (u := (.func (.func 40) #[] #[(Pt b326 0), (Pt b21 0), (Pt b39 0), (Pt b49 0), (Pt b60 0)])) (evs rfl) (evs rfl) rfl) (by dsimp only [List.set]; try rfl) ?_
  refine seqd rfl rfl (does_alloc z70) ?_; rintro _ w351 ⟨b347, rfl, hb348, hB349, E350⟩
  have n352 : g_b < b347 := Nat.lt_of_lt_of_le (cell_lt (Cells.at (hc_g.ext X345) 0 rfl)) hb348
  have n353 : b21 < b347 := Nat.lt_of_lt_of_le (Blk.lt (((((((((((((((((((((((((((((hB23.ext E32).ext E42).ext E52).ext E63).wr W72 (Nat.ne_of_lt n45)).wr W76 (Nat.ne_of_lt n55)).wr W80 (Nat.ne_of_lt n66)).ext E86).kl E102 nin0).wr W156 (Nat.ne_of_lt n127)).wr W160 (Nat.ne_of_lt n137)).wr W164 (Nat.ne_of_lt n147)).ext E175).ext E198).wr W209 (Nat.ne_of_lt n45)).wr W213 (Nat.ne_of_lt n55)).wr W217 (Nat.ne_of_lt n66)).ext E226).ext E249).wr W260 (Nat.ne_of_lt n45)).wr W264 (Nat.ne_of_lt n55)).wr W268 (Nat.ne_of_lt n66)).ext E277).ext E300).wr W311 (Nat.ne_of_lt n45)).wr W315 (Nat.ne_of_lt n55)).wr W319 (Nat.ne_of_lt n66)).ext E329).wr W342 (Nat.ne_of_lt n332))) hb348
  have n354 : b29 < b347 := Nat.lt_of_lt_of_le (Blk.lt ((((((((((((((((((((((((((((hB31.ext E42).ext E52).ext E63).wr W72 (Nat.ne_of_lt n46)).wr W76 (Nat.ne_of_lt n56)).wr W80 (Nat.ne_of_lt n67)).ext E86).kl E102 nin0).wr W156 (Nat.ne_of_lt n128)).wr W160 (Nat.ne_of_lt n138)).wr W164 (Nat.ne_of_lt n148)).ext E175).ext E198).wr W209 (Nat.ne_of_lt n46)).wr W213 (Nat.ne_of_lt n56)).wr W217 (Nat.ne_of_lt n67)).ext E226).ext E249).wr W260 (Nat.ne_of_lt n46)).wr W264 (Nat.ne_of_lt n56)).wr W268 (Nat.ne_of_lt n67)).ext E277).ext E300).wr W311 (Nat.ne_of_lt n46)).wr W315 (Nat.ne_of_lt n56)).wr W319 (Nat.ne_of_lt n67)).ext E329).wr W342 (Nat.ne_of_lt n333))) hb348
  have n355 : b123 < b347 := Nat.lt_of_lt_of_le (Blk.lt (((((((((((((((((((hB157.wr W160 (Ne.symm n153)).wr W164 (Ne.symm n154)).ext E175).ext E198).wr W209 (Nat.ne_of_gt n129)).wr W213 (Nat.ne_of_gt n130)).wr W217 (Nat.ne_of_gt n131)).ext E226).ext E249).wr W260 (Nat.ne_of_gt n129)).wr W264 (Nat.ne_of_gt n130)).wr W268 (Nat.ne_of_gt n131)).ext E277).ext E300).wr W311 (Nat.ne_of_gt n129)).wr W315 (Nat.ne_of_gt n130)).wr W319 (Nat.ne_of_gt n131)).ext E329).wr W342 (Nat.ne_of_lt n334))) hb348
  have n356 : b133 < b347 := Nat.lt_of_lt_of_le (Blk.lt ((((((((((((((((((hB161.wr W164 (Ne.symm n155)).ext E175).ext E198).wr W209 (Nat.ne_of_gt n139)).wr W213 (Nat.ne_of_gt n140)).wr W217 (Nat.ne_of_gt n141)).ext E226).ext E249).wr W260 (Nat.ne_of_gt n139)).wr W264 (Nat.ne_of_gt n140)).wr W268 (Nat.ne_of_gt n141)).ext E277).ext E300).wr W311 (Nat.ne_of_gt n139)).wr W315 (Nat.ne_of_gt n140)).wr W319 (Nat.ne_of_gt n141)).ext E329).wr W342 (Nat.ne_of_lt n335))) hb348
  have n357 : b143 < b347 := Nat.lt_of_lt_of_le (Blk.lt (((((((((((((((((hB165.ext E175).ext E198).wr W209 (Nat.ne_of_gt n149)).wr W213 (Nat.ne_of_gt n150)).wr W217 (Nat.ne_of_gt n151)).ext E226).ext E249).wr W260 (Nat.ne_of_gt n149)).wr W264 (Nat.ne_of_gt n150)).wr W268 (Nat.ne_of_gt n151)).ext E277).ext E300).wr W311 (Nat.ne_of_gt n149)).wr W315 (Nat.ne_of_gt n150)).wr W319 (Nat.ne_of_gt n151)).ext E329).wr W342 (Nat.ne_of_lt n336))) hb348
  have n358 : b39 < b347 := Nat.lt_of_lt_of_le (Blk.lt ((((hB312.wr W315 (Nat.ne_of_lt n57)).wr W319 (Nat.ne_of_lt n68)).ext E329).wr W342 (Nat.ne_of_lt n337))) hb348
  have n359 : b49 < b347 := Nat.lt_of_lt_of_le (Blk.lt (((hB316.wr W319 (Nat.ne_of_lt n69)).ext E329).wr W342 (Nat.ne_of_lt n338))) hb348
  have n360 : b60 < b347 := Nat.lt_of_lt_of_le (Blk.lt ((hB320.ext E329).wr W342 (Nat.ne_of_lt n339))) hb348
  have n361 : b326 < b347 := Nat.lt_of_lt_of_le (Blk.lt hB343) hb348
  have g362 : w.heap.size ≤ b347 := Nat.le_trans (Below.size X345) hb348
  change Blk _ _ [.nilFunc] at hB349
  have X363 := Ext.gr X345 E350
  show wpList _ _ _ _ (fr [(Pt g_b g_o), (.agg #[(Fl r11), (Fl r13), (Fl r15)]), (Pt b21 0), (Pt b29 0), (Fl 0), (Pt b39 0), (Pt b49 0), (Pt b60 0), (Pt b123 0), (Pt b133 0), (Pt b143 0), (Iv 2), (Pt b326 0), (Pt b347 0), Ud, (.agg #[(Iv 0), (Iv 0), (Iv 0)]), (.agg #[(Iv 0), (Iv 0), (Iv 0)]), (.agg #[(Fl 0), (Fl 0), (Fl 0)]), v89, (.agg #[(Fl r111), (Fl r113), (Fl r115)]), v91, v92, v93, v94, (.agg #[(Fl r117), (Fl r119), (Fl r121)]), v96, (.agg #[(Iv A_g.x), (Iv A_g.y), (Iv A_g.z)]), (Iv 3), (Bo false), (Iv 2), v294, v280, (Iv 2), (Iv 2), v283, v284, v285, v286, v287, v288, v289, v290, v291, v292, v293, (Iv (cellI (cf .f32 r115) (cf .f32 r121) A_g.step A_g.z)), (Iv (min (cellI (cf .f32 r115) (cf .f32 r121) A_g.step A_g.z + 1) (A_g.z - 1))), (Fl r309), (Pt b39 2), (Pt b49 2), (Pt b60 2), (Iv 3), (.func (.func 40) #[] #[(Pt b326 0), (Pt b21 0), (Pt b39 0), (Pt b49 0), (Pt b60 0)]), Ud, Ud, Ud, Ud, Ud, Ud, Ud, Ud, Ud, Ud, Ud, Ud, Ud]) _
  refine seqn rfl rfl (does_store (n := 1) (cs := [.nilFunc]) (u := (.func (.func 40) #[] #[(Pt b326 0), (Pt b21 0), (Pt b39 0), (Pt b49 0), (Pt b60 0)])) (ev rfl) (ev rfl) Try.sizeOf70 rfl hB349 (Nat.le_of_ble_eq_true rfl) rfl) ?_; rintro _ w366 ⟨rfl, W364, hB365⟩
  change Blk _ _ [(.func (.func 40) #[] #[(Pt b326 0), (Pt b21 0), (Pt b39 0), (Pt b49 0), (Pt b60 0)])] at hB365
  have X367 := Below.wr X363 W364 g362
  refine wpList_nil (hK346 _ _ ?_)
  refine wp_seq_k fun K368 hK368 => ?_
  refine wp_region_lit ?_
  refine q_is rfl rfl (does_makeFunc (u := (.func (.func 42) #[] #[(Pt b326 0), (Pt b347 0), (Pt b39 0), (Pt b49 0), (Pt b60 0)])) (evs rfl) (evs rfl) rfl) (by dsimp only [List.set]; try rfl) ?_
  refine q_is rfl rfl (does_assign (u := (.func (.func 42) #[] #[(Pt b326 0), (Pt b347 0), (Pt b39 0), (Pt b49 0), (Pt b60 0)])) (ev rfl)) (by dsimp only [List.set]; try rfl) ?_
  refine wpList_nil (hK368 _ _ ?_)
  refine wp_seq_k fun K369 hK369 => ?_
  refine region_draw (
    [Fact.pure [] (fun v => v = (.func (.func 39) #[] #[])),
    Fact.pure [] (fun v => v = (.func (.func 42) #[] #[(Pt b326 0), (Pt b347 0), (Pt b39 0), (Pt b49 0), (Pt b60 0)])),
    Fact.pure [] (fun v => v = (Pt b39 2)),
    Fact.pure [56] (fun v => v = (Iv (cellI (cf .f32 r115) (cf .f32 r121) A_g.step A_g.z))),
    Fact.pure [57, 55] (fun v => ∃ r_1 : Nat, v = (Fl r_1) ∧ cf .f32 r_1 = (fun x y z => mixF x y z) ((fun y z => (fun x y z => mixF x y z) (vat A_g (cellI (cf .f32 r111) (cf .f32 r117) A_g.step A_g.x) y z) (vat A_g (min (cellI (cf .f32 r111) (cf .f32 r117) A_g.step A_g.x + 1) (A_g.x - 1)) y z) (cf .f32 r207)) (cellI (cf .f32 r113) (cf .f32 r119) A_g.step A_g.y) (cellI (cf .f32 r115) (cf .f32 r121) A_g.step A_g.z)) ((fun y z => (fun x y z => mixF x y z) (vat A_g (cellI (cf .f32 r111) (cf .f32 r117) A_g.step A_g.x) y z) (vat A_g (min (cellI (cf .f32 r111) (cf .f32 r117) A_g.step A_g.x + 1) (A_g.x - 1)) y z) (cf .f32 r207)) (min (cellI (cf .f32 r113) (cf .f32 r119) A_g.step A_g.y + 1) (A_g.y - 1)) (cellI (cf .f32 r115) (cf .f32 r121) A_g.step A_g.z)) (cf .f32 r258)),
    Fact.pure [] (fun v => v = (.func (.func 42) #[] #[(Pt b326 0), (Pt b347 0), (Pt b39 0), (Pt b49 0), (Pt b60 0)])),
    Fact.pure [] (fun v => v = (Pt b49 2)),
    Fact.pure [60] (fun v => v = (Iv (min (cellI (cf .f32 r115) (cf .f32 r121) A_g.step A_g.z + 1) (A_g.z - 1)))),
    Fact.pure [61, 59] (fun v => ∃ r_1 : Nat, v = (Fl r_1) ∧ cf .f32 r_1 = (fun x y z => mixF x y z) ((fun y z => (fun x y z => mixF x y z) (vat A_g (cellI (cf .f32 r111) (cf .f32 r117) A_g.step A_g.x) y z) (vat A_g (min (cellI (cf .f32 r111) (cf .f32 r117) A_g.step A_g.x + 1) (A_g.x - 1)) y z) (cf .f32 r207)) (cellI (cf .f32 r113) (cf .f32 r119) A_g.step A_g.y) (min (cellI (cf .f32 r115) (cf .f32 r121) A_g.step A_g.z + 1) (A_g.z - 1))) ((fun y z => (fun x y z => mixF x y z) (vat A_g (cellI (cf .f32 r111) (cf .f32 r117) A_g.step A_g.x) y z) (vat A_g (min (cellI (cf .f32 r111) (cf .f32 r117) A_g.step A_g.x + 1) (A_g.x - 1)) y z) (cf .f32 r207)) (min (cellI (cf .f32 r113) (cf .f32 r119) A_g.step A_g.y + 1) (A_g.y - 1)) (min (cellI (cf .f32 r115) (cf .f32 r121) A_g.step A_g.z + 1) (A_g.z - 1))) (cf .f32 r258)),
    Fact.pure [] (fun v => v = (Pt b60 2)),
    Fact.pure [63] (fun v => v = (Fl r309)),
    Fact.pure [58, 62, 64, 54] (fun v => ∃ r_1 : Nat, v = (Fl r_1) ∧ cf .f32 r_1 = mixF ((fun x y z => mixF x y z) ((fun y z => (fun x y z => mixF x y z) (vat A_g (cellI (cf .f32 r111) (cf .f32 r117) A_g.step A_g.x) y z) (vat A_g (min (cellI (cf .f32 r111) (cf .f32 r117) A_g.step A_g.x + 1) (A_g.x - 1)) y z) (cf .f32 r207)) (cellI (cf .f32 r113) (cf .f32 r119) A_g.step A_g.y) (cellI (cf .f32 r115) (cf .f32 r121) A_g.step A_g.z)) ((fun y z => (fun x y z => mixF x y z) (vat A_g (cellI (cf .f32 r111) (cf .f32 r117) A_g.step A_g.x) y z) (vat A_g (min (cellI (cf .f32 r111) (cf .f32 r117) A_g.step A_g.x + 1) (A_g.x - 1)) y z) (cf .f32 r207)) (min (cellI (cf .f32 r113) (cf .f32 r119) A_g.step A_g.y + 1) (A_g.y - 1)) (cellI (cf .f32 r115) (cf .f32 r121) A_g.step A_g.z)) (cf .f32 r258)) ((fun x y z => mixF x y z) ((fun y z => (fun x y z => mixF x y z) (vat A_g (cellI (cf .f32 r111) (cf .f32 r117) A_g.step A_g.x) y z) (vat A_g (min (cellI (cf .f32 r111) (cf .f32 r117) A_g.step A_g.x + 1) (A_g.x - 1)) y z) (cf .f32 r207)) (cellI (cf .f32 r113) (cf .f32 r119) A_g.step A_g.y) (min (cellI (cf .f32 r115) (cf .f32 r121) A_g.step A_g.z + 1) (A_g.z - 1))) ((fun y z => (fun x y z => mixF x y z) (vat A_g (cellI (cf .f32 r111) (cf .f32 r117) A_g.step A_g.x) y z) (vat A_g (min (cellI (cf .f32 r111) (cf .f32 r117) A_g.step A_g.x + 1) (A_g.x - 1)) y z) (cf .f32 r207)) (min (cellI (cf .f32 r113) (cf .f32 r119) A_g.step A_g.y + 1) (A_g.y - 1)) (min (cellI (cf .f32 r115) (cf .f32 r121) A_g.step A_g.z + 1) (A_g.z - 1))) (cf .f32 r258)) (cf .f32 r309))]) mixed (by kernel_rfl) (by intro _ _ d _ _ h; cases d <;> exact h) ?_
  obtain ⟨w370, hw372⟩ : ∃ w', w' = World.drew w366 := ⟨_, rfl⟩; rw [← hw372]; have E371 : Ext w366 w370 := by rw [hw372]; exact Ext.draw _
  clear hw372
  have X373 := Ext.gr X367 E371
  refine RW_d _ rfl (fun v => by dsimp only [List.set]; try rfl) (fun u hu hF => ?_) (fun v374 => ?_)
  · clear hF
    refine doesG_un rfl ?_
    refine (does_load (u := (.func (.func 39) #[] #[])) (ev rfl) Try.isAgg63 (Cells.at (Blk.cells ((((hB343.ext E350).wr W364 (Nat.ne_of_lt n361)).ext E371).ext hu)) 0 rfl)).mono ?_; rintro _ _ ⟨rfl, rfl⟩
    exact ⟨rfl, Ext.refl _⟩
  refine RW_d _ rfl (fun v => by dsimp only [List.set]; try rfl) (fun u hu hF => ?_) (fun v375 => ?_)
  · clear hF
    refine doesG_un rfl ?_
    refine (does_move (u := (.func (.func 42) #[] #[(Pt b326 0), (Pt b347 0), (Pt b39 0), (Pt b49 0), (Pt b60 0)])) (ev rfl)).mono ?_; rintro _ _ ⟨rfl, rfl⟩
    exact ⟨rfl, Ext.refl _⟩
  refine RW_d _ rfl (fun v => by dsimp only [List.set]; try rfl) (fun u hu hF => ?_) (fun v376 => ?_)
  · clear hF
    refine doesG_un rfl ?_
    refine (does_indexAt_run (r := (Pt b39 2)) (ev rfl) (ev rfl) (fun w => ia64_2 _ _ w)).mono ?_; rintro _ _ ⟨rfl, rfl⟩
    exact ⟨rfl, Ext.refl _⟩
  refine RW_d _ rfl (fun v => by dsimp only [List.set]; try rfl) (fun u hu hF => ?_) (fun v377 => ?_)
  · have h56_ : v376 = (Pt b39 2) := hF.1
    clear hF
    refine doesG_un rfl ?_
    obtain rfl := h56_
    refine (does_load (u := (Iv (cellI (cf .f32 r115) (cf .f32 r121) A_g.step A_g.z))) (ev rfl) Try.isAgg2 (Cells.at (Blk.cells ((((((((hB312.wr W315 (Nat.ne_of_lt n57)).wr W319 (Nat.ne_of_lt n68)).ext E329).wr W342 (Nat.ne_of_lt n337)).ext E350).wr W364 (Nat.ne_of_lt n358)).ext E371).ext hu)) 2 rfl)).mono ?_; rintro _ _ ⟨rfl, rfl⟩
    exact ⟨rfl, Ext.refl _⟩
  refine RW_d _ rfl (fun v => by dsimp only [List.set]; try rfl) (fun u hu hF => ?_) (fun v378 => ?_)
  · have h57_ : v377 = (Iv (cellI (cf .f32 r115) (cf .f32 r121) A_g.step A_g.z)) := hF.1
    have h55_ : v375 = (.func (.func 42) #[] #[(Pt b326 0), (Pt b347 0), (Pt b39 0), (Pt b49 0), (Pt b60 0)]) := hF.2.1
    clear hF
    refine doesG_un rfl ?_
    obtain rfl := h57_
    obtain rfl := h55_
    refine (does_callv (fst := #[]) (args := #[(Iv (cellI (cf .f32 r115) (cf .f32 r121) A_g.step A_g.z))]) (cap := #[(Pt b326 0), (Pt b347 0), (Pt b39 0), (Pt b49 0), (Pt b60 0)]) (all := #[(Iv (cellI (cf .f32 r115) (cf .f32 r121) A_g.step A_g.z)), (Pt b326 0), (Pt b347 0), (Pt b39 0), (Pt b49 0), (Pt b60 0)]) (ev rfl) cal42 (evs rfl) rfl (c_impl_Grid_between_3 (cellI (cf .f32 r115) (cf .f32 r121) A_g.step A_g.z) b326 0 (.func (.func 39) #[] #[]) (fun x y z => mixF x y z) b347 0 (.func (.func 40) #[] #[(Pt b326 0), (Pt b21 0), (Pt b39 0), (Pt b49 0), (Pt b60 0)]) (fun y z => (0 ≤ idxG A_g (cellI (cf .f32 r111) (cf .f32 r117) A_g.step A_g.x) y z ∧ idxG A_g (cellI (cf .f32 r111) (cf .f32 r117) A_g.step A_g.x) y z < A_g.vals.length) ∧ (0 ≤ idxG A_g (min (cellI (cf .f32 r111) (cf .f32 r117) A_g.step A_g.x + 1) (A_g.x - 1)) y z ∧ idxG A_g (min (cellI (cf .f32 r111) (cf .f32 r117) A_g.step A_g.x + 1) (A_g.x - 1)) y z < A_g.vals.length)) (fun y z => (fun x y z => mixF x y z) (vat A_g (cellI (cf .f32 r111) (cf .f32 r117) A_g.step A_g.x) y z) (vat A_g (min (cellI (cf .f32 r111) (cf .f32 r117) A_g.step A_g.x + 1) (A_g.x - 1)) y z) (cf .f32 r207)) b39 0 (cellI (cf .f32 r111) (cf .f32 r117) A_g.step A_g.x) (cellI (cf .f32 r113) (cf .f32 r119) A_g.step A_g.y) (cellI (cf .f32 r115) (cf .f32 r121) A_g.step A_g.z) b49 0 (min (cellI (cf .f32 r111) (cf .f32 r117) A_g.step A_g.x + 1) (A_g.x - 1)) (min (cellI (cf .f32 r113) (cf .f32 r119) A_g.step A_g.y + 1) (A_g.y - 1)) (min (cellI (cf .f32 r115) (cf .f32 r121) A_g.step A_g.z + 1) (A_g.z - 1)) b60 0 r207 r258 r309 _ ⟨39, #[], #[], rfl, cal39, fun r t q u hu' => by simpa using (c_impl_Grid_between_1 r t q u)⟩ (Blk.cells ((((hB343.ext E350).wr W364 (Nat.ne_of_lt n361)).ext E371).ext hu)) ⟨40, #[], #[(Pt b326 0), (Pt b21 0), (Pt b39 0), (Pt b49 0), (Pt b60 0)], rfl, cal40, fun y z u hD hu' => by simpa using (c_impl_Grid_between_2 y z b326 0 (.func (.func 39) #[] #[]) (fun x y z => mixF x y z) b21 0 g_b g_o [(Fl r1), (Fl r3), (Fl r5), (Fl r7), (Iv A_g.x), (Iv A_g.y), (Iv A_g.z), (.slice p17 A_g.vals.length q18)] A_g b39 0 (cellI (cf .f32 r111) (cf .f32 r117) A_g.step A_g.x) (cellI (cf .f32 r113) (cf .f32 r119) A_g.step A_g.y) (cellI (cf .f32 r115) (cf .f32 r121) A_g.step A_g.z) b49 0 (min (cellI (cf .f32 r111) (cf .f32 r117) A_g.step A_g.x + 1) (A_g.x - 1)) (min (cellI (cf .f32 r113) (cf .f32 r119) A_g.step A_g.y + 1) (A_g.y - 1)) (min (cellI (cf .f32 r115) (cf .f32 r121) A_g.step A_g.z + 1) (A_g.z - 1)) b60 0 r207 r258 r309 u ⟨39, #[], #[], rfl, cal39, fun r t q u hu' => by simpa using (c_impl_Grid_between_1 r t q u)⟩ (Blk.cells ((((hB343.ext E350).wr W364 (Nat.ne_of_lt n361)).ext E371).ext (Ext.gr hu hu'))) ((hc_g.ext (Ext.gr X367 E371)).ext (Ext.gr hu hu')) ⟨r1, r3, r5, r7, (.slice p17 A_g.vals.length q18), rfl, h2, h4, h6, h8, (Sl.ext (Sl.ext hs19 RF.mono (Ext.gr X367 E371)) RF.mono (Ext.gr hu hu'))⟩ (Blk.cells (((((((((((((((((((((((((((((((((hB23.ext E32).ext E42).ext E52).ext E63).wr W72 (Nat.ne_of_lt n45)).wr W76 (Nat.ne_of_lt n55)).wr W80 (Nat.ne_of_lt n66)).ext E86).kl E102 nin0).wr W156 (Nat.ne_of_lt n127)).wr W160 (Nat.ne_of_lt n137)).wr W164 (Nat.ne_of_lt n147)).ext E175).ext E198).wr W209 (Nat.ne_of_lt n45)).wr W213 (Nat.ne_of_lt n55)).wr W217 (Nat.ne_of_lt n66)).ext E226).ext E249).wr W260 (Nat.ne_of_lt n45)).wr W264 (Nat.ne_of_lt n55)).wr W268 (Nat.ne_of_lt n66)).ext E277).ext E300).wr W311 (Nat.ne_of_lt n45)).wr W315 (Nat.ne_of_lt n55)).wr W319 (Nat.ne_of_lt n66)).ext E329).wr W342 (Nat.ne_of_lt n332)).ext E350).wr W364 (Nat.ne_of_lt n353)).ext E371).ext (Ext.gr hu hu'))) (Blk.cells ((((((((hB312.wr W315 (Nat.ne_of_lt n57)).wr W319 (Nat.ne_of_lt n68)).ext E329).wr W342 (Nat.ne_of_lt n337)).ext E350).wr W364 (Nat.ne_of_lt n358)).ext E371).ext (Ext.gr hu hu'))) (Blk.cells (((((((hB316.wr W319 (Nat.ne_of_lt n69)).ext E329).wr W342 (Nat.ne_of_lt n338)).ext E350).wr W364 (Nat.ne_of_lt n359)).ext E371).ext (Ext.gr hu hu'))) (Blk.cells ((((((hB320.ext E329).wr W342 (Nat.ne_of_lt n339)).ext E350).wr W364 (Nat.ne_of_lt n360)).ext E371).ext (Ext.gr hu hu'))) hD.1 hD.2)⟩ (Blk.cells ((hB365.ext E371).ext hu)) (Blk.cells ((((((((hB312.wr W315 (Nat.ne_of_lt n57)).wr W319 (Nat.ne_of_lt n68)).ext E329).wr W342 (Nat.ne_of_lt n337)).ext E350).wr W364 (Nat.ne_of_lt n358)).ext E371).ext hu)) (Blk.cells (((((((hB316.wr W319 (Nat.ne_of_lt n69)).ext E329).wr W342 (Nat.ne_of_lt n338)).ext E350).wr W364 (Nat.ne_of_lt n359)).ext E371).ext hu)) (Blk.cells ((((((hB320.ext E329).wr W342 (Nat.ne_of_lt n339)).ext E350).wr W364 (Nat.ne_of_lt n360)).ext E371).ext hu)) (by simp only [h2, h4, h6, h8, h12, h14, h16, h112, h114, h116, h118, h120, h122, h208, h259, h310]; exact ⟨⟨by omega, by omega⟩, by omega, by omega⟩) (by simp only [h2, h4, h6, h8, h12, h14, h16, h112, h114, h116, h118, h120, h122, h208, h259, h310]; exact ⟨⟨by omega, by omega⟩, by omega, by omega⟩))).mono ?_; rintro v u' ⟨hx, ⟨rn1, hv, k0⟩⟩
    exact ⟨⟨rn1, hv, (by simp only [k0])⟩, hx⟩
  refine RW_d _ rfl (fun v => by dsimp only [List.set]; try rfl) (fun u hu hF => ?_) (fun v379 => ?_)
  · clear hF
    refine doesG_un rfl ?_
    refine (does_move (u := (.func (.func 42) #[] #[(Pt b326 0), (Pt b347 0), (Pt b39 0), (Pt b49 0), (Pt b60 0)])) (ev rfl)).mono ?_; rintro _ _ ⟨rfl, rfl⟩
    exact ⟨rfl, Ext.refl _⟩
  refine RW_d _ rfl (fun v => by dsimp only [List.set]; try rfl) (fun u hu hF => ?_) (fun v380 => ?_)
  · clear hF
    refine doesG_un rfl ?_
    refine (does_indexAt_run (r := (Pt b49 2)) (ev rfl) (ev rfl) (fun w => ia64_2 _ _ w)).mono ?_; rintro _ _ ⟨rfl, rfl⟩
    exact ⟨rfl, Ext.refl _⟩
  refine RW_d _ rfl (fun v => by dsimp only [List.set]; try rfl) (fun u hu hF => ?_) (fun v381 => ?_)
  · have h60_ : v380 = (Pt b49 2) := hF.1
    clear hF
    refine doesG_un rfl ?_
    obtain rfl := h60_
    refine (does_load (u := (Iv (min (cellI (cf .f32 r115) (cf .f32 r121) A_g.step A_g.z + 1) (A_g.z - 1)))) (ev rfl) Try.isAgg2 (Cells.at (Blk.cells (((((((hB316.wr W319 (Nat.ne_of_lt n69)).ext E329).wr W342 (Nat.ne_of_lt n338)).ext E350).wr W364 (Nat.ne_of_lt n359)).ext E371).ext hu)) 2 rfl)).mono ?_; rintro _ _ ⟨rfl, rfl⟩
    exact ⟨rfl, Ext.refl _⟩
  refine RW_d _ rfl (fun v => by dsimp only [List.set]; try rfl) (fun u hu hF => ?_) (fun v382 => ?_)
  · have h61_ : v381 = (Iv (min (cellI (cf .f32 r115) (cf .f32 r121) A_g.step A_g.z + 1) (A_g.z - 1))) := hF.1
    have h59_ : v379 = (.func (.func 42) #[] #[(Pt b326 0), (Pt b347 0), (Pt b39 0), (Pt b49 0), (Pt b60 0)]) := hF.2.1
    clear hF
    refine doesG_un rfl ?_
    obtain rfl := h61_
    obtain rfl := h59_
    refine (does_callv (fst := #[]) (args := #[(Iv (min (cellI (cf .f32 r115) (cf .f32 r121) A_g.step A_g.z + 1) (A_g.z - 1)))]) (cap := #[(Pt b326 0), (Pt b347 0), (Pt b39 0), (Pt b49 0), (Pt b60 0)]) (all := #[(Iv (min (cellI (cf .f32 r115) (cf .f32 r121) A_g.step A_g.z + 1) (A_g.z - 1))), (Pt b326 0), (Pt b347 0), (Pt b39 0), (Pt b49 0), (Pt b60 0)]) (ev rfl) cal42 (evs rfl) rfl (c_impl_Grid_between_3 (min (cellI (cf .f32 r115) (cf .f32 r121) A_g.step A_g.z + 1) (A_g.z - 1)) b326 0 (.func (.func 39) #[] #[]) (fun x y z => mixF x y z) b347 0 (.func (.func 40) #[] #[(Pt b326 0), (Pt b21 0), (Pt b39 0), (Pt b49 0), (Pt b60 0)]) (fun y z => (0 ≤ idxG A_g (cellI (cf .f32 r111) (cf .f32 r117) A_g.step A_g.x) y z ∧ idxG A_g (cellI (cf .f32 r111) (cf .f32 r117) A_g.step A_g.x) y z < A_g.vals.length) ∧ (0 ≤ idxG A_g (min (cellI (cf .f32 r111) (cf .f32 r117) A_g.step A_g.x + 1) (A_g.x - 1)) y z ∧ idxG A_g (min (cellI (cf .f32 r111) (cf .f32 r117) A_g.step A_g.x + 1) (A_g.x - 1)) y z < A_g.vals.length)) (fun y z => (fun x y z => mixF x y z) (vat A_g (cellI (cf .f32 r111) (cf .f32 r117) A_g.step A_g.x) y z) (vat A_g (min (cellI (cf .f32 r111) (cf .f32 r117) A_g.step A_g.x + 1) (A_g.x - 1)) y z) (cf .f32 r207)) b39 0 (cellI (cf .f32 r111) (cf .f32 r117) A_g.step A_g.x) (cellI (cf .f32 r113) (cf .f32 r119) A_g.step A_g.y) (cellI (cf .f32 r115) (cf .f32 r121) A_g.step A_g.z) b49 0 (min (cellI (cf .f32 r111) (cf .f32 r117) A_g.step A_g.x + 1) (A_g.x - 1)) (min (cellI (cf .f32 r113) (cf .f32 r119) A_g.step A_g.y + 1) (A_g.y - 1)) (min (cellI (cf .f32 r115) (cf .f32 r121) A_g.step A_g.z + 1) (A_g.z - 1)) b60 0 r207 r258 r309 _ ⟨39, #[], #[], rfl, cal39, fun r t q u hu' => by simpa using (c_impl_Grid_between_1 r t q u)⟩ (Blk.cells ((((hB343.ext E350).wr W364 (Nat.ne_of_lt n361)).ext E371).ext hu)) ⟨40, #[], #[(Pt b326 0), (Pt b21 0), (Pt b39 0), (Pt b49 0), (Pt b60 0)], rfl, cal40, fun y z u hD hu' => by simpa using (c_impl_Grid_between_2 y z b326 0 (.func (.func 39) #[] #[]) (fun x y z => mixF x y z) b21 0 g_b g_o [(Fl r1), (Fl r3), (Fl r5), (Fl r7), (Iv A_g.x), (Iv A_g.y), (Iv A_g.z), (.slice p17 A_g.vals.length q18)] A_g b39 0 (cellI (cf .f32 r111) (cf .f32 r117) A_g.step A_g.x) (cellI (cf .f32 r113) (cf .f32 r119) A_g.step A_g.y) (cellI (cf .f32 r115) (cf .f32 r121) A_g.step A_g.z) b49 0 (min (cellI (cf .f32 r111) (cf .f32 r117) A_g.step A_g.x + 1) (A_g.x - 1)) (min (cellI (cf .f32 r113) (cf .f32 r119) A_g.step A_g.y + 1) (A_g.y - 1)) (min (cellI (cf .f32 r115) (cf .f32 r121) A_g.step A_g.z + 1) (A_g.z - 1)) b60 0 r207 r258 r309 u ⟨39, #[], #[], rfl, cal39, fun r t q u hu' => by simpa using (c_impl_Grid_between_1 r t q u)⟩ (Blk.cells ((((hB343.ext E350).wr W364 (Nat.ne_of_lt n361)).ext E371).ext (Ext.gr hu hu'))) ((hc_g.ext (Ext.gr X367 E371)).ext (Ext.gr hu hu')) ⟨r1, r3, r5, r7, (.slice p17 A_g.vals.length q18), rfl, h2, h4, h6, h8, (Sl.ext (Sl.ext hs19 RF.mono (Ext.gr X367 E371)) RF.mono (Ext.gr hu hu'))⟩ (Blk.cells (((((((((((((((((((((((((((((((((hB23.ext E32).ext E42).ext E52).ext E63).wr W72 (Nat.ne_of_lt n45)).wr W76 (Nat.ne_of_lt n55)).wr W80 (Nat.ne_of_lt n66)).ext E86).kl E102 nin0).wr W156 (Nat.ne_of_lt n127)).wr W160 (Nat.ne_of_lt n137)).wr W164 (Nat.ne_of_lt n147)).ext E175).ext E198).wr W209 (Nat.ne_of_lt n45)).wr W213 (Nat.ne_of_lt n55)).wr W217 (Nat.ne_of_lt n66)).ext E226).ext E249).wr W260 (Nat.ne_of_lt n45)).wr W264 (Nat.ne_of_lt n55)).wr W268 (Nat.ne_of_lt n66)).ext E277).ext E300).wr W311 (Nat.ne_of_lt n45)).wr W315 (Nat.ne_of_lt n55)).wr W319 (Nat.ne_of_lt n66)).ext E329).wr W342 (Nat.ne_of_lt n332)).ext E350).wr W364 (Nat.ne_of_lt n353)).ext E371).ext (Ext.gr hu hu'))) (Blk.cells ((((((((hB312.wr W315 (Nat.ne_of_lt n57)).wr W319 (Nat.ne_of_lt n68)).ext E329).wr W342 (Nat.ne_of_lt n337)).ext E350).wr W364 (Nat.ne_of_lt n358)).ext E371).ext (Ext.gr hu hu'))) (Blk.cells (((((((hB316.wr W319 (Nat.ne_of_lt n69)).ext E329).wr W342 (Nat.ne_of_lt n338)).ext E350).wr W364 (Nat.ne_of_lt n359)).ext E371).ext (Ext.gr hu hu'))) (Blk.cells ((((((hB320.ext E329).wr W342 (Nat.ne_of_lt n339)).ext E350).wr W364 (Nat.ne_of_lt n360)).ext E371).ext (Ext.gr hu hu'))) hD.1 hD.2)⟩ (Blk.cells ((hB365.ext E371).ext hu)) (Blk.cells ((((((((hB312.wr W315 (Nat.ne_of_lt n57)).wr W319 (Nat.ne_of_lt n68)).ext E329).wr W342 (Nat.ne_of_lt n337)).ext E350).wr W364 (Nat.ne_of_lt n358)).ext E371).ext hu)) (Blk.cells (((((((hB316.wr W319 (Nat.ne_of_lt n69)).ext E329).wr W342 (Nat.ne_of_lt n338)).ext E350).wr W364 (Nat.ne_of_lt n359)).ext E371).ext hu)) (Blk.cells ((((((hB320.ext E329).wr W342 (Nat.ne_of_lt n339)).ext E350).wr W364 (Nat.ne_of_lt n360)).ext E371).ext hu)) (by simp only [h2, h4, h6, h8, h12, h14, h16, h112, h114, h116, h118, h120, h122, h208, h259, h310]; exact ⟨⟨by omega, by omega⟩, by omega, by omega⟩) (by simp only [h2, h4, h6, h8, h12, h14, h16, h112, h114, h116, h118, h120, h122, h208, h259, h310]; exact ⟨⟨by omega, by omega⟩, by omega, by omega⟩))).mono ?_; rintro v u' ⟨hx, ⟨rn1, hv, k0⟩⟩
    exact ⟨⟨rn1, hv, (by simp only [k0])⟩, hx⟩
  refine RW_d _ rfl (fun v => by dsimp only [List.set]; try rfl) (fun u hu hF => ?_) (fun v383 => ?_)
  · clear hF
    refine doesG_un rfl ?_
    refine (does_indexAt_run (r := (Pt b60 2)) (ev rfl) (ev rfl) (fun w => ia54_2 _ _ w)).mono ?_; rintro _ _ ⟨rfl, rfl⟩
    exact ⟨rfl, Ext.refl _⟩
  refine RW_d _ rfl (fun v => by dsimp only [List.set]; try rfl) (fun u hu hF => ?_) (fun v384 => ?_)
  · have h63_ : v383 = (Pt b60 2) := hF.1
    clear hF
    refine doesG_un rfl ?_
    obtain rfl := h63_
    refine (does_load (u := (Fl r309)) (ev rfl) Try.isAgg22 (Cells.at (Blk.cells ((((((hB320.ext E329).wr W342 (Nat.ne_of_lt n339)).ext E350).wr W364 (Nat.ne_of_lt n360)).ext E371).ext hu)) 2 rfl)).mono ?_; rintro _ _ ⟨rfl, rfl⟩
    exact ⟨rfl, Ext.refl _⟩
  refine RW_d _ rfl (fun v => by dsimp only [List.set]; try rfl) (fun u hu hF => ?_) (fun v385 => ?_)
  · have h58_ : ∃ r_1 : Nat, v378 = (Fl r_1) ∧ cf .f32 r_1 = (fun x y z => mixF x y z) ((fun y z => (fun x y z => mixF x y z) (vat A_g (cellI (cf .f32 r111) (cf .f32 r117) A_g.step A_g.x) y z) (vat A_g (min (cellI (cf .f32 r111) (cf .f32 r117) A_g.step A_g.x + 1) (A_g.x - 1)) y z) (cf .f32 r207)) (cellI (cf .f32 r113) (cf .f32 r119) A_g.step A_g.y) (cellI (cf .f32 r115) (cf .f32 r121) A_g.step A_g.z)) ((fun y z => (fun x y z => mixF x y z) (vat A_g (cellI (cf .f32 r111) (cf .f32 r117) A_g.step A_g.x) y z) (vat A_g (min (cellI (cf .f32 r111) (cf .f32 r117) A_g.step A_g.x + 1) (A_g.x - 1)) y z) (cf .f32 r207)) (min (cellI (cf .f32 r113) (cf .f32 r119) A_g.step A_g.y + 1) (A_g.y - 1)) (cellI (cf .f32 r115) (cf .f32 r121) A_g.step A_g.z)) (cf .f32 r258) := hF.1
    have h62_ : ∃ r_1 : Nat, v382 = (Fl r_1) ∧ cf .f32 r_1 = (fun x y z => mixF x y z) ((fun y z => (fun x y z => mixF x y z) (vat A_g (cellI (cf .f32 r111) (cf .f32 r117) A_g.step A_g.x) y z) (vat A_g (min (cellI (cf .f32 r111) (cf .f32 r117) A_g.step A_g.x + 1) (A_g.x - 1)) y z) (cf .f32 r207)) (cellI (cf .f32 r113) (cf .f32 r119) A_g.step A_g.y) (min (cellI (cf .f32 r115) (cf .f32 r121) A_g.step A_g.z + 1) (A_g.z - 1))) ((fun y z => (fun x y z => mixF x y z) (vat A_g (cellI (cf .f32 r111) (cf .f32 r117) A_g.step A_g.x) y z) (vat A_g (min (cellI (cf .f32 r111) (cf .f32 r117) A_g.step A_g.x + 1) (A_g.x - 1)) y z) (cf .f32 r207)) (min (cellI (cf .f32 r113) (cf .f32 r119) A_g.step A_g.y + 1) (A_g.y - 1)) (min (cellI (cf .f32 r115) (cf .f32 r121) A_g.step A_g.z + 1) (A_g.z - 1))) (cf .f32 r258) := hF.2.1
    have h64_ : v384 = (Fl r309) := hF.2.2.1
    have h54_ : v374 = (.func (.func 39) #[] #[]) := hF.2.2.2.1
    clear hF
    refine doesG_un rfl ?_
    obtain ⟨r58_1, rfl, h58_2⟩ := h58_
    obtain ⟨r62_1, rfl, h62_2⟩ := h62_
    obtain rfl := h64_
    obtain rfl := h54_
    refine (does_callv (fst := #[]) (args := #[(Fl r58_1), (Fl r62_1), (Fl r309)]) (cap := #[]) (all := #[(Fl r58_1), (Fl r62_1), (Fl r309)]) (ev rfl) cal39 (evs rfl) rfl (c_impl_Grid_between_1 r58_1 r62_1 r309 _)).mono ?_; rintro v u' ⟨hx, ⟨rn1, hv, k0⟩⟩
    exact ⟨⟨rn1, hv.trans (by simp only [h58_2, h62_2]), (by simp only [k0, h58_2, h62_2])⟩, hx⟩
  refine RW_fin ?_; intro w386 E387 hP388
  obtain ⟨⟨⟨⟨⟨⟨⟨⟨⟨⟨⟨⟨-, -⟩, -⟩, -⟩, -⟩, -⟩, -⟩, -⟩, -⟩, -⟩, -⟩, -⟩, q389⟩ := hP388
  have X390 := Ext.gr X373 E387
  have q389 : ∃ r_1 : Nat, v385 = (Fl r_1) ∧ cf .f32 r_1 = mixF ((fun x y z => mixF x y z) ((fun y z => (fun x y z => mixF x y z) (vat A_g (cellI (cf .f32 r111) (cf .f32 r117) A_g.step A_g.x) y z) (vat A_g (min (cellI (cf .f32 r111) (cf .f32 r117) A_g.step A_g.x + 1) (A_g.x - 1)) y z) (cf .f32 r207)) (cellI (cf .f32 r113) (cf .f32 r119) A_g.step A_g.y) (cellI (cf .f32 r115) (cf .f32 r121) A_g.step A_g.z)) ((fun y z => (fun x y z => mixF x y z) (vat A_g (cellI (cf .f32 r111) (cf .f32 r117) A_g.step A_g.x) y z) (vat A_g (min (cellI (cf .f32 r111) (cf .f32 r117) A_g.step A_g.x + 1) (A_g.x - 1)) y z) (cf .f32 r207)) (min (cellI (cf .f32 r113) (cf .f32 r119) A_g.step A_g.y + 1) (A_g.y - 1)) (cellI (cf .f32 r115) (cf .f32 r121) A_g.step A_g.z)) (cf .f32 r258)) ((fun x y z => mixF x y z) ((fun y z => (fun x y z => mixF x y z) (vat A_g (cellI (cf .f32 r111) (cf .f32 r117) A_g.step A_g.x) y z) (vat A_g (min (cellI (cf .f32 r111) (cf .f32 r117) A_g.step A_g.x + 1) (A_g.x - 1)) y z) (cf .f32 r207)) (cellI (cf .f32 r113) (cf .f32 r119) A_g.step A_g.y) (min (cellI (cf .f32 r115) (cf .f32 r121) A_g.step A_g.z + 1) (A_g.z - 1))) ((fun y z => (fun x y z => mixF x y z) (vat A_g (cellI (cf .f32 r111) (cf .f32 r117) A_g.step A_g.x) y z) (vat A_g (min (cellI (cf .f32 r111) (cf .f32 r117) A_g.step A_g.x + 1) (A_g.x - 1)) y z) (cf .f32 r207)) (min (cellI (cf .f32 r113) (cf .f32 r119) A_g.step A_g.y + 1) (A_g.y - 1)) (min (cellI (cf .f32 r115) (cf .f32 r121) A_g.step A_g.z + 1) (A_g.z - 1))) (cf .f32 r258)) (cf .f32 r309) := q389
  obtain ⟨r391, rfl, h392⟩ := q389
  show wpList _ _ _ _ (fr [(Pt g_b g_o), (.agg #[(Fl r11), (Fl r13), (Fl r15)]), (Pt b21 0), (Pt b29 0), (Fl 0), (Pt b39 0), (Pt b49 0), (Pt b60 0), (Pt b123 0), (Pt b133 0), (Pt b143 0), (Iv 2), (Pt b326 0), (Pt b347 0), (.func (.func 42) #[] #[(Pt b326 0), (Pt b347 0), (Pt b39 0), (Pt b49 0), (Pt b60 0)]), (.agg #[(Iv 0), (Iv 0), (Iv 0)]), (.agg #[(Iv 0), (Iv 0), (Iv 0)]), (.agg #[(Fl 0), (Fl 0), (Fl 0)]), v89, (.agg #[(Fl r111), (Fl r113), (Fl r115)]), v91, v92, v93, v94, (.agg #[(Fl r117), (Fl r119), (Fl r121)]), v96, (.agg #[(Iv A_g.x), (Iv A_g.y), (Iv A_g.z)]), (Iv 3), (Bo false), (Iv 2), v294, v280, (Iv 2), (Iv 2), v283, v284, v285, v286, v287, v288, v289, v290, v291, v292, v293, (Iv (cellI (cf .f32 r115) (cf .f32 r121) A_g.step A_g.z)), (Iv (min (cellI (cf .f32 r115) (cf .f32 r121) A_g.step A_g.z + 1) (A_g.z - 1))), (Fl r309), (Pt b39 2), (Pt b49 2), (Pt b60 2), (Iv 3), (.func (.func 40) #[] #[(Pt b326 0), (Pt b21 0), (Pt b39 0), (Pt b49 0), (Pt b60 0)]), (.func (.func 42) #[] #[(Pt b326 0), (Pt b347 0), (Pt b39 0), (Pt b49 0), (Pt b60 0)]), v374, v375, v376, v377, v378, v379, v380, v381, v382, v383, v384, (Fl r391)]) _
  refine q_is rfl rfl (does_assign (u := (Fl r391)) (ev rfl)) (by dsimp only [List.set]; try rfl) ?_
  refine wpList_nil (hK369 _ _ ?_)
  refine wp_ret ?_
  refine ret_val (v := (Fl r391)) (res_T rfl (slot rfl)) X390 ?_
  have x393 : cf .f32 r391 = readG A_g A_p := by simp only [h2, h4, h6, h8, h12, h14, h16, h112, h114, h116, h118, h120, h122, h208, h259, h310, h392]; rfl
  exact ⟨r391, rfl, x393⟩

end Go.Proofs.Ytlpgjgombdcheaa
