/- contracts of functions, each walked once -/
import Derived.Test.YtiagimgdjngnfaaV4
namespace Go.Proofs.Ytiagimgdjngnfaa
open Go Go.RowKit
set_option maxRecDepth 100000
set_option maxHeartbeats 3200000
set_option linter.unusedVariables false
set_option linter.unusedSimpArgs false

/- laws.eqMarch -/
theorem c_laws_eqMarch (a : List Value) (A_a : MarchT) (b : List Value) (A_b : MarchT) (w : World) (hv_a : RMarchT w A_a a) (hv_b : RMarchT w A_b b) : Gives Try.prog 47 #[(.agg a.toArray), (.agg b.toArray)] w (fun v w' => v = (Bo (sameMar A_a A_b))) := by
  obtain ⟨r1, r3, rfl, h2, h4⟩ := hv_a
  obtain ⟨r5, r7, rfl, h6, h8⟩ := hv_b
  refine enter [(.agg #[(Fl r1), (Fl r3), (Iv A_a.steps)]), (.agg #[(Fl r5), (Fl r7), (Iv A_b.steps)]), Ud, Ud, Ud, Ud, Ud, Ud, Ud, Ud, Ud, Ud, Ud, Ud, Ud, Ud, Ud, Ud, Ud, Ud, Ud, Ud, Ud, Ud, Ud, Ud] Try.func47 rfl Try.ntmps47 rfl ?_
  refine wp_seq_k fun K9 hK9 => ?_
  refine wp_region_lit ?_
  refine seqd rfl rfl (does_box (u := (.agg #[(Fl r1), (Fl r3), (Iv A_a.steps)])) (ev rfl)) ?_; rintro _ w14 ⟨b10, rfl, hb11, hB12, E13⟩
  have g15 : w.heap.size ≤ b10 := Nat.le_trans (Below.size (Ext.refl w)) hb11
  change Blk _ _ [(Fl r1), (Fl r3), (Iv A_a.steps)] at hB12
  have X16 := Ext.gr (Ext.refl w) E13
  show wpList _ _ _ _ (fr [_, _, _, _, _, _, _, _, _, _, _, _, _, _, _, _, _, _, _, _, _, _, _, _, _, _]) _
  refine seqd rfl rfl (does_box (u := (.agg #[(Fl r5), (Fl r7), (Iv A_b.steps)])) (ev rfl)) ?_; rintro _ w21 ⟨b17, rfl, hb18, hB19, E20⟩
  have n22 : b10 < b17 := Nat.lt_of_lt_of_le (Blk.lt hB12) hb18
  have g23 : w.heap.size ≤ b17 := Nat.le_trans (Below.size X16) hb18
  change Blk _ _ [(Fl r5), (Fl r7), (Iv A_b.steps)] at hB19
  have X24 := Ext.gr X16 E20
  show wpList _ _ _ _ (fr [_, _, _, _, _, _, _, _, _, _, _, _, _, _, _, _, _, _, _, _, _, _, _, _, _, _]) _
  refine q_is rfl rfl (does_assign (u := (Bo false)) (ev rfl)) (by dsimp only [List.set]; try rfl) ?_
  refine wpList_nil (hK9 _ _ ?_)
  refine wp_seq_k fun K25 hK25 => ?_
  refine wp_seq_k fun K26 hK26 => ?_
  refine wp_region_lit ?_
  refine q_is rfl rfl (does_fieldAddr (ev rfl) fa61_0) (by dsimp only [List.set]; try rfl) ?_
  refine q_is rfl rfl (does_load (u := (Fl r1)) (ev rfl) Try.isAgg38 (Cells.at (Blk.cells (hB12.ext E20)) 0 rfl)) (by dsimp only [List.set]; try rfl) ?_
  refine seqd rfl rfl (does_widen Try.underlying38 Try.underlying84 (ev rfl)) ?_; rintro _ w30 ⟨r27, rfl, h28, E29⟩
  have X31 := Ext.gr X24 E29
  show wpList _ _ _ _ (fr [_, _, _, _, _, _, _, _, _, _, _, _, _, _, _, _, _, _, _, _, _, _, _, _, _, _]) _
  refine q_is rfl rfl (does_fieldAddr (ev rfl) fa61_0) (by dsimp only [List.set]; try rfl) ?_
  refine q_is rfl rfl (does_load (u := (Fl r5)) (ev rfl) Try.isAgg38 (Cells.at (Blk.cells (hB19.ext E29)) 0 rfl)) (by dsimp only [List.set]; try rfl) ?_
  refine seqd rfl rfl (does_widen Try.underlying38 Try.underlying84 (ev rfl)) ?_; rintro _ w35 ⟨r32, rfl, h33, E34⟩
  have X36 := Ext.gr X31 E34
  show wpList _ _ _ _ (fr [_, _, _, _, _, _, _, _, _, _, _, _, _, _, _, _, _, _, _, _, _, _, _, _, _, _]) _
  refine seqd rfl rfl (does_call (args := #[(Fd r27), (Fd r32)]) cal37 (evs rfl) (c_laws_sameFloat r27 r32 _)) ?_; rintro _ w38 ⟨E37, rfl⟩
  have X39 := Ext.gr X36 E37
  show wpList _ _ _ _ (fr [_, _, _, _, _, _, _, _, _, _, _, _, _, _, _, _, _, _, _, _, _, _, _, _, _, _]) _
  refine q_is rfl rfl (does_not (ev rfl)) (by dsimp only [List.set]; try rfl) ?_
  refine wpList_nil (hK26 _ _ ?_)
  refine wp_cond_split (t := !(sameF (cf .f64 r27) (cf .f64 r32))) (ev rfl) (fun c40 => ?_) (fun c40 => ?_)
  · rw [Bool.not_eq_true'] at c40
    have c40' := c40
    refine wp_seq_k fun K41 hK41 => ?_
    refine wp_region_lit ?_
    refine q_is rfl rfl (does_assign (u := (Bo false)) (ev rfl)) (by dsimp only [List.set]; try rfl) ?_
    refine wpList_nil (hK41 _ _ ?_)
    refine wp_ret ?_
    dsimp only [Exit.then, Exit.inBlock]
    refine ret_val (v := (Bo false)) (res_T rfl (slot rfl)) X39 ?_
    try simp only [h2, h4, h6, h8, h28, h33] at c40
    have x42 : (sameMar A_a A_b) = false := by first | with_reducible rfl | (simp only [sameMar, icmp, h2, h4, h6, h8, h28, h33, c40]; done) | (simp [sameMar, icmp, h2, h4, h6, h8, h28, h33, c40]; done) | (revert c40; simp +contextual [sameMar, icmp, h2, h4, h6, h8, h28, h33]; done) | (rcases c40' with hh | hh <;> simp only [hh, sameMar, icmp, h2, h4, h6, h8, h28, h33, c40]; done) | (rcases c40' with hh | hh <;> simp_all [sameMar, icmp]; done) | (rcases c40' with hh | hh | hh <;> simp_all [sameMar, icmp]; done) | (rcases c40' with hh | hh | hh | hh <;> simp_all [sameMar, icmp]; done) | (simp_all [sameMar, icmp]; done) | rfl
    exact (by first | with_reducible rfl | rw [x42] | rfl)
  rw [Bool.not_eq_false'] at c40
  have c40' := c40
  refine wp_skip (hK25 _ _ ?_)
  refine wp_seq_k fun K43 hK43 => ?_
  refine wp_seq_k fun K44 hK44 => ?_
  refine wp_region_lit ?_
  refine q_is rfl rfl (does_fieldAddr (ev rfl) fa61_1) (by dsimp only [List.set]; try rfl) ?_
  refine q_is rfl rfl (does_load (u := (Fl r3)) (ev rfl) Try.isAgg38 (Cells.at (Blk.cells ((((hB12.ext E20).ext E29).ext E34).ext E37)) 1 rfl)) (by dsimp only [List.set]; try rfl) ?_
  refine seqd rfl rfl (does_widen Try.underlying38 Try.underlying84 (ev rfl)) ?_; rintro _ w48 ⟨r45, rfl, h46, E47⟩
  have X49 := Ext.gr X39 E47
  show wpList _ _ _ _ (fr [_, _, _, _, _, _, _, _, _, _, _, _, _, _, _, _, _, _, _, _, _, _, _, _, _, _]) _
  refine q_is rfl rfl (does_fieldAddr (ev rfl) fa61_1) (by dsimp only [List.set]; try rfl) ?_
  refine q_is rfl rfl (does_load (u := (Fl r7)) (ev rfl) Try.isAgg38 (Cells.at (Blk.cells ((((hB19.ext E29).ext E34).ext E37).ext E47)) 1 rfl)) (by dsimp only [List.set]; try rfl) ?_
  refine seqd rfl rfl (does_widen Try.underlying38 Try.underlying84 (ev rfl)) ?_; rintro _ w53 ⟨r50, rfl, h51, E52⟩
  have X54 := Ext.gr X49 E52
  show wpList _ _ _ _ (fr [_, _, _, _, _, _, _, _, _, _, _, _, _, _, _, _, _, _, _, _, _, _, _, _, _, _]) _
  refine seqd rfl rfl (does_call (args := #[(Fd r45), (Fd r50)]) cal37 (evs rfl) (c_laws_sameFloat r45 r50 _)) ?_; rintro _ w56 ⟨E55, rfl⟩
  have X57 := Ext.gr X54 E55
  show wpList _ _ _ _ (fr [_, _, _, _, _, _, _, _, _, _, _, _, _, _, _, _, _, _, _, _, _, _, _, _, _, _]) _
  refine q_is rfl rfl (does_not (ev rfl)) (by dsimp only [List.set]; try rfl) ?_
  refine wpList_nil (hK44 _ _ ?_)
  refine wp_cond_split (t := !(sameF (cf .f64 r45) (cf .f64 r50))) (ev rfl) (fun c58 => ?_) (fun c58 => ?_)
  · rw [Bool.not_eq_true'] at c58
    have c58' := c58
    refine wp_seq_k fun K59 hK59 => ?_
    refine wp_region_lit ?_
    refine q_is rfl rfl (does_assign (u := (Bo false)) (ev rfl)) (by dsimp only [List.set]; try rfl) ?_
    refine wpList_nil (hK59 _ _ ?_)
    refine wp_ret ?_
    dsimp only [Exit.then, Exit.inBlock]
    refine ret_val (v := (Bo false)) (res_T rfl (slot rfl)) X57 ?_
    try simp only [h2, h4, h6, h8, h28, h33, h46, h51] at c40 c58
    have x60 : (sameMar A_a A_b) = false := by first | with_reducible rfl | (simp only [sameMar, icmp, h2, h4, h6, h8, h28, h33, h46, h51, c40, c58]; done) | (simp [sameMar, icmp, h2, h4, h6, h8, h28, h33, h46, h51, c40, c58]; done) | (revert c40 c58; simp +contextual [sameMar, icmp, h2, h4, h6, h8, h28, h33, h46, h51]; done) | (rcases c40' with hh | hh <;> simp only [hh, sameMar, icmp, h2, h4, h6, h8, h28, h33, h46, h51, c40, c58]; done) | (rcases c58' with hh | hh <;> simp only [hh, sameMar, icmp, h2, h4, h6, h8, h28, h33, h46, h51, c40, c58]; done) | (rcases c58' with hh | hh <;> simp_all [sameMar, icmp]; done) | (rcases c58' with hh | hh | hh <;> simp_all [sameMar, icmp]; done) | (rcases c58' with hh | hh | hh | hh <;> simp_all [sameMar, icmp]; done) | (simp_all [sameMar, icmp]; done) | rfl
    exact (by first | with_reducible rfl | rw [x60] | rfl)
  rw [Bool.not_eq_false'] at c58
  have c58' := c58
  refine wp_skip (hK43 _ _ ?_)
  refine wp_seq_k fun K61 hK61 => ?_
  refine wp_seq_k fun K62 hK62 => ?_
  refine wp_region_lit ?_
  refine q_is rfl rfl (does_fieldAddr (ev rfl) fa61_2) (by dsimp only [List.set]; try rfl) ?_
  refine q_is rfl rfl (does_load (u := (Iv A_a.steps)) (ev rfl) Try.isAgg2 (Cells.at (Blk.cells (((((((hB12.ext E20).ext E29).ext E34).ext E37).ext E47).ext E52).ext E55)) 2 rfl)) (by dsimp only [List.set]; try rfl) ?_
  refine q_is rfl rfl (does_fieldAddr (ev rfl) fa61_2) (by dsimp only [List.set]; try rfl) ?_
  refine q_is rfl rfl (does_load (u := (Iv A_b.steps)) (ev rfl) Try.isAgg2 (Cells.at (Blk.cells ((((((hB19.ext E29).ext E34).ext E37).ext E47).ext E52).ext E55)) 2 rfl)) (by dsimp only [List.set]; try rfl) ?_
  refine q_is rfl rfl (does_icmp (p := A_a.steps) (q := A_b.steps) (.inr (.inl rfl)) (ev rfl) (ev rfl)) (by dsimp only [List.set]; try rfl) ?_
  refine wpList_nil (hK62 _ _ ?_)
  refine wp_cond_split (t := icmp .neq A_a.steps A_b.steps) (ev rfl) (fun c63 => ?_) (fun c63 => ?_)
  · have c63' := c63
    (try simp only [icmp, Bool.and_eq_true, Bool.or_eq_true, Bool.and_eq_false_iff, Bool.or_eq_false_iff, Bool.not_eq_true', Bool.not_eq_false', decide_eq_true_eq, decide_eq_false_iff_not, beq_iff_eq, bne_iff_ne, beq_eq_false_iff_ne, bne_eq_false_iff_eq] at c63')
    refine wp_seq_k fun K64 hK64 => ?_
    refine wp_region_lit ?_
    refine q_is rfl rfl (does_assign (u := (Bo false)) (ev rfl)) (by dsimp only [List.set]; try rfl) ?_
    refine wpList_nil (hK64 _ _ ?_)
    refine wp_ret ?_
    dsimp only [Exit.then, Exit.inBlock]
    refine ret_val (v := (Bo false)) (res_T rfl (slot rfl)) X57 ?_
    try simp only [h2, h4, h6, h8, h28, h33, h46, h51] at c40 c58 c63
    have x65 : (sameMar A_a A_b) = false := by first | with_reducible rfl | (simp only [sameMar, icmp, h2, h4, h6, h8, h28, h33, h46, h51, c40, c58, c63]; done) | (simp [sameMar, icmp, h2, h4, h6, h8, h28, h33, h46, h51, c40, c58, c63]; done) | (revert c40 c58 c63; simp +contextual [sameMar, icmp, h2, h4, h6, h8, h28, h33, h46, h51]; done) | (rcases c40' with hh | hh <;> simp only [hh, sameMar, icmp, h2, h4, h6, h8, h28, h33, h46, h51, c40, c58, c63]; done) | (rcases c58' with hh | hh <;> simp only [hh, sameMar, icmp, h2, h4, h6, h8, h28, h33, h46, h51, c40, c58, c63]; done) | (rcases c63' with hh | hh <;> simp only [hh, sameMar, icmp, h2, h4, h6, h8, h28, h33, h46, h51, c40, c58, c63]; done) | (rcases c63' with hh | hh <;> simp_all [sameMar, icmp]; done) | (rcases c63' with hh | hh | hh <;> simp_all [sameMar, icmp]; done) | (rcases c63' with hh | hh | hh | hh <;> simp_all [sameMar, icmp]; done) | (simp_all [sameMar, icmp]; done) | rfl
    exact (by first | with_reducible rfl | rw [x65] | rfl)
  have c63' := c63
  (try simp only [icmp, Bool.and_eq_true, Bool.or_eq_true, Bool.and_eq_false_iff, Bool.or_eq_false_iff, Bool.not_eq_true', Bool.not_eq_false', decide_eq_true_eq, decide_eq_false_iff_not, beq_iff_eq, bne_iff_ne, beq_eq_false_iff_ne, bne_eq_false_iff_eq] at c63')
  refine wp_skip (hK61 _ _ ?_)
  refine wp_seq_k fun K66 hK66 => ?_
  refine wp_region_lit ?_
  refine q_is rfl rfl (does_assign (u := (Bo true)) (ev rfl)) (by dsimp only [List.set]; try rfl) ?_
  refine wpList_nil (hK66 _ _ ?_)
  refine wp_ret ?_
  refine ret_val (v := (Bo true)) (res_T rfl (slot rfl)) X57 ?_
  try simp only [h2, h4, h6, h8, h28, h33, h46, h51] at c40 c58 c63
  have x67 : (sameMar A_a A_b) = true := by first | with_reducible rfl | (simp only [sameMar, icmp, h2, h4, h6, h8, h28, h33, h46, h51, c40, c58, c63]; done) | (simp [sameMar, icmp, h2, h4, h6, h8, h28, h33, h46, h51, c40, c58, c63]; done) | (revert c40 c58 c63; simp +contextual [sameMar, icmp, h2, h4, h6, h8, h28, h33, h46, h51]; done) | (rcases c40' with hh | hh <;> simp only [hh, sameMar, icmp, h2, h4, h6, h8, h28, h33, h46, h51, c40, c58, c63]; done) | (rcases c58' with hh | hh <;> simp only [hh, sameMar, icmp, h2, h4, h6, h8, h28, h33, h46, h51, c40, c58, c63]; done) | (rcases c63' with hh | hh <;> simp only [hh, sameMar, icmp, h2, h4, h6, h8, h28, h33, h46, h51, c40, c58, c63]; done) | (rcases c63' with hh | hh <;> simp_all [sameMar, icmp]; done) | (rcases c63' with hh | hh | hh <;> simp_all [sameMar, icmp]; done) | (rcases c63' with hh | hh | hh | hh <;> simp_all [sameMar, icmp]; done) | (simp_all [sameMar, icmp]; done) | rfl
  exact (by first | with_reducible rfl | rw [x67] | rfl)

/- laws.eqView -/
theorem c_laws_eqView (a : List Value) (A_a : ViewT) (b : List Value) (A_b : ViewT) (w : World) (hv_a : RViewT w A_a a) (hv_b : RViewT w A_b b) : Gives Try.prog 21 #[(.agg a.toArray), (.agg b.toArray)] w (fun v w' => v = (Bo (sameView A_a A_b))) := by
  obtain ⟨r3, r5, r7, r9, r11, r13, r15, r17, r19, r21, r23, r25, y1, rfl, h4, h6, h8, h10, h12, h14, h16, h18, h20, h22, h24, h26, h2⟩ := hv_a
  obtain ⟨r29, r31, r33, r35, r37, r39, r41, r43, r45, r47, r49, r51, y27, rfl, h30, h32, h34, h36, h38, h40, h42, h44, h46, h48, h50, h52, h28⟩ := hv_b
  have hs55 := h2; have hs55l := Sl.len h2; obtain ⟨p53, q54, rfl⟩ := Sl.shape h2
  have hs58 := h28; have hs58l := Sl.len h28; obtain ⟨p56, q57, rfl⟩ := Sl.shape h28
  refine enter [(.agg #[(.slice p53 A_a.shape.nodes.length q54), (Fl r3), (Fl r5), (Fl r7), (Fl r9), (Fl r11), (Fl r13), (Fl r15), (Iv A_a.cam.width), (Iv A_a.cam.height), (Fl r17), (Fl r19), (Fl r21), (Fl r23), (Fl r25), (Iv A_a.march.steps)]), (.agg #[(.slice p56 A_b.shape.nodes.length q57), (Fl r29), (Fl r31), (Fl r33), (Fl r35), (Fl r37), (Fl r39), (Fl r41), (Iv A_b.cam.width), (Iv A_b.cam.height), (Fl r43), (Fl r45), (Fl r47), (Fl r49), (Fl r51), (Iv A_b.march.steps)]), Ud, Ud, Ud, Ud, Ud, Ud, Ud, Ud, Ud, Ud, Ud, Ud, Ud, Ud, Ud, Ud, Ud, Ud, Ud, Ud, Ud, Ud, Ud, Ud, Ud, Ud, Ud] Try.func21 rfl Try.ntmps21 rfl ?_
  refine wp_seq_k fun K59 hK59 => ?_
  refine wp_region_lit ?_
  refine seqd rfl rfl (does_box (u := (.agg #[(.slice p53 A_a.shape.nodes.length q54), (Fl r3), (Fl r5), (Fl r7), (Fl r9), (Fl r11), (Fl r13), (Fl r15), (Iv A_a.cam.width), (Iv A_a.cam.height), (Fl r17), (Fl r19), (Fl r21), (Fl r23), (Fl r25), (Iv A_a.march.steps)])) (ev rfl)) ?_; rintro _ w64 ⟨b60, rfl, hb61, hB62, E63⟩
  have g65 : w.heap.size ≤ b60 := Nat.le_trans (Below.size (Ext.refl w)) hb61
  change Blk _ _ [(.slice p53 A_a.shape.nodes.length q54), (Fl r3), (Fl r5), (Fl r7), (Fl r9), (Fl r11), (Fl r13), (Fl r15), (Iv A_a.cam.width), (Iv A_a.cam.height), (Fl r17), (Fl r19), (Fl r21), (Fl r23), (Fl r25), (Iv A_a.march.steps)] at hB62
  have X66 := Ext.gr (Ext.refl w) E63
  show wpList _ _ _ _ (fr [_, _, _, _, _, _, _, _, _, _, _, _, _, _, _, _, _, _, _, _, _, _, _, _, _, _, _, _, _]) _
  refine seqd rfl rfl (does_box (u := (.agg #[(.slice p56 A_b.shape.nodes.length q57), (Fl r29), (Fl r31), (Fl r33), (Fl r35), (Fl r37), (Fl r39), (Fl r41), (Iv A_b.cam.width), (Iv A_b.cam.height), (Fl r43), (Fl r45), (Fl r47), (Fl r49), (Fl r51), (Iv A_b.march.steps)])) (ev rfl)) ?_; rintro _ w71 ⟨b67, rfl, hb68, hB69, E70⟩
  have n72 : b60 < b67 := Nat.lt_of_lt_of_le (Blk.lt hB62) hb68
  have g73 : w.heap.size ≤ b67 := Nat.le_trans (Below.size X66) hb68
  change Blk _ _ [(.slice p56 A_b.shape.nodes.length q57), (Fl r29), (Fl r31), (Fl r33), (Fl r35), (Fl r37), (Fl r39), (Fl r41), (Iv A_b.cam.width), (Iv A_b.cam.height), (Fl r43), (Fl r45), (Fl r47), (Fl r49), (Fl r51), (Iv A_b.march.steps)] at hB69
  have X74 := Ext.gr X66 E70
  show wpList _ _ _ _ (fr [_, _, _, _, _, _, _, _, _, _, _, _, _, _, _, _, _, _, _, _, _, _, _, _, _, _, _, _, _]) _
  refine q_is rfl rfl (does_assign (u := (Bo false)) (ev rfl)) (by dsimp only [List.set]; try rfl) ?_
  refine wpList_nil (hK59 _ _ ?_)
  refine wp_seq_k fun K75 hK75 => ?_
  refine wp_seq_k fun K76 hK76 => ?_
  refine wp_region_lit ?_
  refine q_is rfl rfl (does_fieldAddr (ev rfl) fa63_0) (by dsimp only [List.set]; try rfl) ?_
  refine q_is rfl rfl (does_loadAgg (cs := [(.slice p53 A_a.shape.nodes.length q54)]) (ev rfl) Try.isAgg30 Try.sizeOf30 (Cells.sub (Blk.cells (hB62.ext E70)) 0 1) rfl) (by dsimp only [List.set]; try rfl) ?_
  refine q_is rfl rfl (does_fieldAddr (ev rfl) fa63_0) (by dsimp only [List.set]; try rfl) ?_
  refine q_is rfl rfl (does_loadAgg (cs := [(.slice p56 A_b.shape.nodes.length q57)]) (ev rfl) Try.isAgg30 Try.sizeOf30 (Cells.sub (Blk.cells hB69) 0 1) rfl) (by dsimp only [List.set]; try rfl) ?_
  refine seqd rfl rfl (does_call (args := #[(.agg #[(.slice p53 A_a.shape.nodes.length q54)]), (.agg #[(.slice p56 A_b.shape.nodes.length q57)])]) cal10 (evs rfl) (c_laws_eqShape [(.slice p53 A_a.shape.nodes.length q54)] A_a.shape [(.slice p56 A_b.shape.nodes.length q57)] A_b.shape _ ⟨(.slice p53 A_a.shape.nodes.length q54), rfl, (Sl.ext hs55 RNodeT.mono X74)⟩ ⟨(.slice p56 A_b.shape.nodes.length q57), rfl, (Sl.ext hs58 RNodeT.mono X74)⟩)) ?_; rintro _ w78 ⟨E77, rfl⟩
  have X79 := Ext.gr X74 E77
  show wpList _ _ _ _ (fr [_, _, _, _, _, _, _, _, _, _, _, _, _, _, _, _, _, _, _, _, _, _, _, _, _, _, _, _, _]) _
  refine q_is rfl rfl (does_not (ev rfl)) (by dsimp only [List.set]; try rfl) ?_
  refine wpList_nil (hK76 _ _ ?_)
  refine wp_cond_split (t := !(sameShp A_a.shape A_b.shape)) (ev rfl) (fun c80 => ?_) (fun c80 => ?_)
  · rw [Bool.not_eq_true'] at c80
    have c80' := c80
    refine wp_seq_k fun K81 hK81 => ?_
    refine wp_region_lit ?_
    refine q_is rfl rfl (does_assign (u := (Bo false)) (ev rfl)) (by dsimp only [List.set]; try rfl) ?_
    refine wpList_nil (hK81 _ _ ?_)
    refine wp_ret ?_
    dsimp only [Exit.then, Exit.inBlock]
    refine ret_val (v := (Bo false)) (res_T rfl (slot rfl)) X79 ?_
    try simp only [h4, h6, h8, h10, h12, h14, h16, h18, h20, h22, h24, h26, h30, h32, h34, h36, h38, h40, h42, h44, h46, h48, h50, h52] at c80
    have x82 : (sameView A_a A_b) = false := by first | with_reducible rfl | (simp only [sameView, h4, h6, h8, h10, h12, h14, h16, h18, h20, h22, h24, h26, h30, h32, h34, h36, h38, h40, h42, h44, h46, h48, h50, h52, c80]; done) | (simp [sameView, h4, h6, h8, h10, h12, h14, h16, h18, h20, h22, h24, h26, h30, h32, h34, h36, h38, h40, h42, h44, h46, h48, h50, h52, c80]; done) | (revert c80; simp +contextual [sameView, h4, h6, h8, h10, h12, h14, h16, h18, h20, h22, h24, h26, h30, h32, h34, h36, h38, h40, h42, h44, h46, h48, h50, h52]; done) | (rcases c80' with hh | hh <;> simp only [hh, sameView, h4, h6, h8, h10, h12, h14, h16, h18, h20, h22, h24, h26, h30, h32, h34, h36, h38, h40, h42, h44, h46, h48, h50, h52, c80]; done) | (rcases c80' with hh | hh <;> simp_all [sameView]; done) | (rcases c80' with hh | hh | hh <;> simp_all [sameView]; done) | (rcases c80' with hh | hh | hh | hh <;> simp_all [sameView]; done) | (simp_all [sameView]; done) | rfl
    exact (by first | with_reducible rfl | rw [x82] | rfl)
  rw [Bool.not_eq_false'] at c80
  have c80' := c80
  refine wp_skip (hK75 _ _ ?_)
  refine wp_seq_k fun K83 hK83 => ?_
  refine wp_seq_k fun K84 hK84 => ?_
  refine wp_region_lit ?_
  refine q_is rfl rfl (does_fieldAddr (ev rfl) fa63_1) (by dsimp only [List.set]; try rfl) ?_
  refine q_is rfl rfl (does_loadAgg (cs := [(Fl r3), (Fl r5), (Fl r7), (Fl r9), (Fl r11), (Fl r13), (Fl r15), (Iv A_a.cam.width), (Iv A_a.cam.height)]) (ev rfl) Try.isAgg60 Try.sizeOf60 (Cells.sub (Blk.cells ((hB62.ext E70).ext E77)) 1 9) rfl) (by dsimp only [List.set]; try rfl) ?_
  refine q_is rfl rfl (does_fieldAddr (ev rfl) fa63_1) (by dsimp only [List.set]; try rfl) ?_
  refine q_is rfl rfl (does_loadAgg (cs := [(Fl r29), (Fl r31), (Fl r33), (Fl r35), (Fl r37), (Fl r39), (Fl r41), (Iv A_b.cam.width), (Iv A_b.cam.height)]) (ev rfl) Try.isAgg60 Try.sizeOf60 (Cells.sub (Blk.cells (hB69.ext E77)) 1 9) rfl) (by dsimp only [List.set]; try rfl) ?_
  refine seqd rfl rfl (does_call (args := #[(.agg #[(Fl r3), (Fl r5), (Fl r7), (Fl r9), (Fl r11), (Fl r13), (Fl r15), (Iv A_a.cam.width), (Iv A_a.cam.height)]), (.agg #[(Fl r29), (Fl r31), (Fl r33), (Fl r35), (Fl r37), (Fl r39), (Fl r41), (Iv A_b.cam.width), (Iv A_b.cam.height)])]) cal46 (evs rfl) (c_laws_eqCamera [(Fl r3), (Fl r5), (Fl r7), (Fl r9), (Fl r11), (Fl r13), (Fl r15), (Iv A_a.cam.width), (Iv A_a.cam.height)] A_a.cam [(Fl r29), (Fl r31), (Fl r33), (Fl r35), (Fl r37), (Fl r39), (Fl r41), (Iv A_b.cam.width), (Iv A_b.cam.height)] A_b.cam _ ⟨r3, r5, r7, r9, r11, r13, r15, rfl, h4, h6, h8, h10, h12, h14, h16⟩ ⟨r29, r31, r33, r35, r37, r39, r41, rfl, h30, h32, h34, h36, h38, h40, h42⟩)) ?_; rintro _ w86 ⟨E85, rfl⟩
  have X87 := Ext.gr X79 E85
  show wpList _ _ _ _ (fr [_, _, _, _, _, _, _, _, _, _, _, _, _, _, _, _, _, _, _, _, _, _, _, _, _, _, _, _, _]) _
  refine q_is rfl rfl (does_not (ev rfl)) (by dsimp only [List.set]; try rfl) ?_
  refine wpList_nil (hK84 _ _ ?_)
  refine wp_cond_split (t := !(sameCam A_a.cam A_b.cam)) (ev rfl) (fun c88 => ?_) (fun c88 => ?_)
  · rw [Bool.not_eq_true'] at c88
    have c88' := c88
    refine wp_seq_k fun K89 hK89 => ?_
    refine wp_region_lit ?_
    refine q_is rfl rfl (does_assign (u := (Bo false)) (ev rfl)) (by dsimp only [List.set]; try rfl) ?_
    refine wpList_nil (hK89 _ _ ?_)
    refine wp_ret ?_
    dsimp only [Exit.then, Exit.inBlock]
    refine ret_val (v := (Bo false)) (res_T rfl (slot rfl)) X87 ?_
    try simp only [h4, h6, h8, h10, h12, h14, h16, h18, h20, h22, h24, h26, h30, h32, h34, h36, h38, h40, h42, h44, h46, h48, h50, h52] at c80 c88
    have x90 : (sameView A_a A_b) = false := by first | with_reducible rfl | (simp only [sameView, h4, h6, h8, h10, h12, h14, h16, h18, h20, h22, h24, h26, h30, h32, h34, h36, h38, h40, h42, h44, h46, h48, h50, h52, c80, c88]; done) | (simp [sameView, h4, h6, h8, h10, h12, h14, h16, h18, h20, h22, h24, h26, h30, h32, h34, h36, h38, h40, h42, h44, h46, h48, h50, h52, c80, c88]; done) | (revert c80 c88; simp +contextual [sameView, h4, h6, h8, h10, h12, h14, h16, h18, h20, h22, h24, h26, h30, h32, h34, h36, h38, h40, h42, h44, h46, h48, h50, h52]; done) | (rcases c80' with hh | hh <;> simp only [hh, sameView, h4, h6, h8, h10, h12, h14, h16, h18, h20, h22, h24, h26, h30, h32, h34, h36, h38, h40, h42, h44, h46, h48, h50, h52, c80, c88]; done) | (rcases c88' with hh | hh <;> simp only [hh, sameView, h4, h6, h8, h10, h12, h14, h16, h18, h20, h22, h24, h26, h30, h32, h34, h36, h38, h40, h42, h44, h46, h48, h50, h52, c80, c88]; done) | (rcases c88' with hh | hh <;> simp_all [sameView]; done) | (rcases c88' with hh | hh | hh <;> simp_all [sameView]; done) | (rcases c88' with hh | hh | hh | hh <;> simp_all [sameView]; done) | (simp_all [sameView]; done) | rfl
    exact (by first | with_reducible rfl | rw [x90] | rfl)
  rw [Bool.not_eq_false'] at c88
  have c88' := c88
  refine wp_skip (hK83 _ _ ?_)
  refine wp_seq_k fun K91 hK91 => ?_
  refine wp_seq_k fun K92 hK92 => ?_
  refine wp_region_lit ?_
  refine q_is rfl rfl (does_fieldAddr (ev rfl) fa63_2) (by dsimp only [List.set]; try rfl) ?_
  refine q_is rfl rfl (does_loadAgg (cs := [(Fl r17), (Fl r19), (Fl r21)]) (ev rfl) Try.isAgg40 Try.sizeOf40 (Cells.sub (Blk.cells (((hB62.ext E70).ext E77).ext E85)) 10 3) rfl) (by dsimp only [List.set]; try rfl) ?_
  refine q_is rfl rfl (does_fieldAddr (ev rfl) fa63_2) (by dsimp only [List.set]; try rfl) ?_
  refine q_is rfl rfl (does_loadAgg (cs := [(Fl r43), (Fl r45), (Fl r47)]) (ev rfl) Try.isAgg40 Try.sizeOf40 (Cells.sub (Blk.cells ((hB69.ext E77).ext E85)) 10 3) rfl) (by dsimp only [List.set]; try rfl) ?_
  refine seqd rfl rfl (does_call (args := #[(.agg #[(Fl r17), (Fl r19), (Fl r21)]), (.agg #[(Fl r43), (Fl r45), (Fl r47)])]) cal15 (evs rfl) (c_laws_eqVector [(Fl r17), (Fl r19), (Fl r21)] A_a.light [(Fl r43), (Fl r45), (Fl r47)] A_b.light _ ⟨r17, r19, r21, rfl, h18, h20, h22⟩ ⟨r43, r45, r47, rfl, h44, h46, h48⟩)) ?_; rintro _ w94 ⟨E93, rfl⟩
  have X95 := Ext.gr X87 E93
  show wpList _ _ _ _ (fr [_, _, _, _, _, _, _, _, _, _, _, _, _, _, _, _, _, _, _, _, _, _, _, _, _, _, _, _, _]) _
  refine q_is rfl rfl (does_not (ev rfl)) (by dsimp only [List.set]; try rfl) ?_
  refine wpList_nil (hK92 _ _ ?_)
  refine wp_cond_split (t := !(sameV A_a.light A_b.light)) (ev rfl) (fun c96 => ?_) (fun c96 => ?_)
  · rw [Bool.not_eq_true'] at c96
    have c96' := c96
    refine wp_seq_k fun K97 hK97 => ?_
    refine wp_region_lit ?_
    refine q_is rfl rfl (does_assign (u := (Bo false)) (ev rfl)) (by dsimp only [List.set]; try rfl) ?_
    refine wpList_nil (hK97 _ _ ?_)
    refine wp_ret ?_
    dsimp only [Exit.then, Exit.inBlock]
    refine ret_val (v := (Bo false)) (res_T rfl (slot rfl)) X95 ?_
    try simp only [h4, h6, h8, h10, h12, h14, h16, h18, h20, h22, h24, h26, h30, h32, h34, h36, h38, h40, h42, h44, h46, h48, h50, h52] at c80 c88 c96
    have x98 : (sameView A_a A_b) = false := by first | with_reducible rfl | (simp only [sameView, h4, h6, h8, h10, h12, h14, h16, h18, h20, h22, h24, h26, h30, h32, h34, h36, h38, h40, h42, h44, h46, h48, h50, h52, c80, c88, c96]; done) | (simp [sameView, h4, h6, h8, h10, h12, h14, h16, h18, h20, h22, h24, h26, h30, h32, h34, h36, h38, h40, h42, h44, h46, h48, h50, h52, c80, c88, c96]; done) | (revert c80 c88 c96; simp +contextual [sameView, h4, h6, h8, h10, h12, h14, h16, h18, h20, h22, h24, h26, h30, h32, h34, h36, h38, h40, h42, h44, h46, h48, h50, h52]; done) | (rcases c80' with hh | hh <;> simp only [hh, sameView, h4, h6, h8, h10, h12, h14, h16, h18, h20, h22, h24, h26, h30, h32, h34, h36, h38, h40, h42, h44, h46, h48, h50, h52, c80, c88, c96]; done) | (rcases c88' with hh | hh <;> simp only [hh, sameView, h4, h6, h8, h10, h12, h14, h16, h18, h20, h22, h24, h26, h30, h32, h34, h36, h38, h40, h42, h44, h46, h48, h50, h52, c80, c88, c96]; done) | (rcases c96' with hh | hh <;> simp only [hh, sameView, h4, h6, h8, h10, h12, h14, h16, h18, h20, h22, h24, h26, h30, h32, h34, h36, h38, h40, h42, h44, h46, h48, h50, h52, c80, c88, c96]; done) | (rcases c96' with hh | hh <;> simp_all [sameView]; done) | (rcases c96' with hh | hh | hh <;> simp_all [sameView]; done) | (rcases c96' with hh | hh | hh | hh <;> simp_all [sameView]; done) | (simp_all [sameView]; done) | rfl
    exact (by first | with_reducible rfl | rw [x98] | rfl)
  rw [Bool.not_eq_false'] at c96
  have c96' := c96
  refine wp_skip (hK91 _ _ ?_)
  refine wp_seq_k fun K99 hK99 => ?_
  refine wp_seq_k fun K100 hK100 => ?_
  refine wp_region_lit ?_
  refine q_is rfl rfl (does_fieldAddr (ev rfl) fa63_3) (by dsimp only [List.set]; try rfl) ?_
  refine q_is rfl rfl (does_loadAgg (cs := [(Fl r23), (Fl r25), (Iv A_a.march.steps)]) (ev rfl) Try.isAgg61 Try.sizeOf61 (Cells.sub (Blk.cells ((((hB62.ext E70).ext E77).ext E85).ext E93)) 13 3) rfl) (by dsimp only [List.set]; try rfl) ?_
  refine q_is rfl rfl (does_fieldAddr (ev rfl) fa63_3) (by dsimp only [List.set]; try rfl) ?_
  refine q_is rfl rfl (does_loadAgg (cs := [(Fl r49), (Fl r51), (Iv A_b.march.steps)]) (ev rfl) Try.isAgg61 Try.sizeOf61 (Cells.sub (Blk.cells (((hB69.ext E77).ext E85).ext E93)) 13 3) rfl) (by dsimp only [List.set]; try rfl) ?_
  refine seqd rfl rfl (does_call (args := #[(.agg #[(Fl r23), (Fl r25), (Iv A_a.march.steps)]), (.agg #[(Fl r49), (Fl r51), (Iv A_b.march.steps)])]) cal47 (evs rfl) (c_laws_eqMarch [(Fl r23), (Fl r25), (Iv A_a.march.steps)] A_a.march [(Fl r49), (Fl r51), (Iv A_b.march.steps)] A_b.march _ ⟨r23, r25, rfl, h24, h26⟩ ⟨r49, r51, rfl, h50, h52⟩)) ?_; rintro _ w102 ⟨E101, rfl⟩
  have X103 := Ext.gr X95 E101
  show wpList _ _ _ _ (fr [_, _, _, _, _, _, _, _, _, _, _, _, _, _, _, _, _, _, _, _, _, _, _, _, _, _, _, _, _]) _
  refine q_is rfl rfl (does_not (ev rfl)) (by dsimp only [List.set]; try rfl) ?_
  refine wpList_nil (hK100 _ _ ?_)
  refine wp_cond_split (t := !(sameMar A_a.march A_b.march)) (ev rfl) (fun c104 => ?_) (fun c104 => ?_)
  · rw [Bool.not_eq_true'] at c104
    have c104' := c104
    refine wp_seq_k fun K105 hK105 => ?_
    refine wp_region_lit ?_
    refine q_is rfl rfl (does_assign (u := (Bo false)) (ev rfl)) (by dsimp only [List.set]; try rfl) ?_
    refine wpList_nil (hK105 _ _ ?_)
    refine wp_ret ?_
    dsimp only [Exit.then, Exit.inBlock]
    refine ret_val (v := (Bo false)) (res_T rfl (slot rfl)) X103 ?_
    try simp only [h4, h6, h8, h10, h12, h14, h16, h18, h20, h22, h24, h26, h30, h32, h34, h36, h38, h40, h42, h44, h46, h48, h50, h52] at c80 c88 c96 c104
    have x106 : (sameView A_a A_b) = false := by first | with_reducible rfl | (simp only [sameView, h4, h6, h8, h10, h12, h14, h16, h18, h20, h22, h24, h26, h30, h32, h34, h36, h38, h40, h42, h44, h46, h48, h50, h52, c80, c88, c96, c104]; done) | (simp [sameView, h4, h6, h8, h10, h12, h14, h16, h18, h20, h22, h24, h26, h30, h32, h34, h36, h38, h40, h42, h44, h46, h48, h50, h52, c80, c88, c96, c104]; done) | (revert c80 c88 c96 c104; simp +contextual [sameView, h4, h6, h8, h10, h12, h14, h16, h18, h20, h22, h24, h26, h30, h32, h34, h36, h38, h40, h42, h44, h46, h48, h50, h52]; done) | (rcases c80' with hh | hh <;> simp only [hh, sameView, h4, h6, h8, h10, h12, h14, h16, h18, h20, h22, h24, h26, h30, h32, h34, h36, h38, h40, h42, h44, h46, h48, h50, h52, c80, c88, c96, c104]; done) | (rcases c88' with hh | hh <;> simp only [hh, sameView, h4, h6, h8, h10, h12, h14, h16, h18, h20, h22, h24, h26, h30, h32, h34, h36, h38, h40, h42, h44, h46, h48, h50, h52, c80, c88, c96, c104]; done) | (rcases c96' with hh | hh <;> simp only [hh, sameView, h4, h6, h8, h10, h12, h14, h16, h18, h20, h22, h24, h26, h30, h32, h34, h36, h38, h40, h42, h44, h46, h48, h50, h52, c80, c88, c96, c104]; done) | (rcases c104' with hh | hh <;> simp only [hh, sameView, h4, h6, h8, h10, h12, h14, h16, h18, h20, h22, h24, h26, h30, h32, h34, h36, h38, h40, h42, h44, h46, h48, h50, h52, c80, c88, c96, c104]; done) | (rcases c104' with hh | hh <;> simp_all [sameView]; done) | (rcases c104' with hh | hh | hh <;> simp_all [sameView]; done) | (rcases c104' with hh | hh | hh | hh <;> simp_all [sameView]; done) | (simp_all [sameView]; done) | rfl
    exact (by first | with_reducible rfl | rw [x106] | rfl)
  rw [Bool.not_eq_false'] at c104
  have c104' := c104
  refine wp_skip (hK99 _ _ ?_)
  refine wp_seq_k fun K107 hK107 => ?_
  refine wp_region_lit ?_
  refine q_is rfl rfl (does_assign (u := (Bo true)) (ev rfl)) (by dsimp only [List.set]; try rfl) ?_
  refine wpList_nil (hK107 _ _ ?_)
  refine wp_ret ?_
  refine ret_val (v := (Bo true)) (res_T rfl (slot rfl)) X103 ?_
  try simp only [h4, h6, h8, h10, h12, h14, h16, h18, h20, h22, h24, h26, h30, h32, h34, h36, h38, h40, h42, h44, h46, h48, h50, h52] at c80 c88 c96 c104
  have x108 : (sameView A_a A_b) = true := by first | with_reducible rfl | (simp only [sameView, h4, h6, h8, h10, h12, h14, h16, h18, h20, h22, h24, h26, h30, h32, h34, h36, h38, h40, h42, h44, h46, h48, h50, h52, c80, c88, c96, c104]; done) | (simp [sameView, h4, h6, h8, h10, h12, h14, h16, h18, h20, h22, h24, h26, h30, h32, h34, h36, h38, h40, h42, h44, h46, h48, h50, h52, c80, c88, c96, c104]; done) | (revert c80 c88 c96 c104; simp +contextual [sameView, h4, h6, h8, h10, h12, h14, h16, h18, h20, h22, h24, h26, h30, h32, h34, h36, h38, h40, h42, h44, h46, h48, h50, h52]; done) | (rcases c80' with hh | hh <;> simp only [hh, sameView, h4, h6, h8, h10, h12, h14, h16, h18, h20, h22, h24, h26, h30, h32, h34, h36, h38, h40, h42, h44, h46, h48, h50, h52, c80, c88, c96, c104]; done) | (rcases c88' with hh | hh <;> simp only [hh, sameView, h4, h6, h8, h10, h12, h14, h16, h18, h20, h22, h24, h26, h30, h32, h34, h36, h38, h40, h42, h44, h46, h48, h50, h52, c80, c88, c96, c104]; done) | (rcases c96' with hh | hh <;> simp only [hh, sameView, h4, h6, h8, h10, h12, h14, h16, h18, h20, h22, h24, h26, h30, h32, h34, h36, h38, h40, h42, h44, h46, h48, h50, h52, c80, c88, c96, c104]; done) | (rcases c104' with hh | hh <;> simp only [hh, sameView, h4, h6, h8, h10, h12, h14, h16, h18, h20, h22, h24, h26, h30, h32, h34, h36, h38, h40, h42, h44, h46, h48, h50, h52, c80, c88, c96, c104]; done) | (rcases c104' with hh | hh <;> simp_all [sameView]; done) | (rcases c104' with hh | hh | hh <;> simp_all [sameView]; done) | (rcases c104' with hh | hh | hh | hh <;> simp_all [sameView]; done) | (simp_all [sameView]; done) | rfl
  exact (by first | with_reducible rfl | rw [x108] | rfl)

/- laws.FnExactValidView -/
theorem c_laws_FnExactValidView (a : List Value) (A_a : ViewT) (w : World) (hv_a : RViewT w A_a a) : Gives Try.prog 5 #[(.agg a.toArray)] w (fun v w' => v = (Bo true)) := by
  obtain ⟨r3, r5, r7, r9, r11, r13, r15, r17, r19, r21, r23, r25, y1, rfl, h4, h6, h8, h10, h12, h14, h16, h18, h20, h22, h24, h26, h2⟩ := hv_a
  have hs29 := h2; have hs29l := Sl.len h2; obtain ⟨p27, q28, rfl⟩ := Sl.shape h2
  refine enter [(.agg #[(.slice p27 A_a.shape.nodes.length q28), (Fl r3), (Fl r5), (Fl r7), (Fl r9), (Fl r11), (Fl r13), (Fl r15), (Iv A_a.cam.width), (Iv A_a.cam.height), (Fl r17), (Fl r19), (Fl r21), (Fl r23), (Fl r25), (Iv A_a.march.steps)]), Ud, Ud, Ud, Ud, Ud, Ud, Ud, Ud, Ud, Ud, Ud, Ud, Ud, Ud, Ud, Ud, Ud, Ud, Ud, Ud, Ud, Ud, Ud, Ud, Ud, Ud] Try.func5 rfl Try.ntmps5 rfl ?_
  refine wp_seq_k fun K30 hK30 => ?_
  refine wp_region_lit ?_
  refine seqd rfl rfl (does_box (u := (.agg #[(.slice p27 A_a.shape.nodes.length q28), (Fl r3), (Fl r5), (Fl r7), (Fl r9), (Fl r11), (Fl r13), (Fl r15), (Iv A_a.cam.width), (Iv A_a.cam.height), (Fl r17), (Fl r19), (Fl r21), (Fl r23), (Fl r25), (Iv A_a.march.steps)])) (ev rfl)) ?_; rintro _ w35 ⟨b31, rfl, hb32, hB33, E34⟩
  have g36 : w.heap.size ≤ b31 := Nat.le_trans (Below.size (Ext.refl w)) hb32
  change Blk _ _ [(.slice p27 A_a.shape.nodes.length q28), (Fl r3), (Fl r5), (Fl r7), (Fl r9), (Fl r11), (Fl r13), (Fl r15), (Iv A_a.cam.width), (Iv A_a.cam.height), (Fl r17), (Fl r19), (Fl r21), (Fl r23), (Fl r25), (Iv A_a.march.steps)] at hB33
  have X37 := Ext.gr (Ext.refl w) E34
  show wpList _ _ _ _ (fr [_, _, _, _, _, _, _, _, _, _, _, _, _, _, _, _, _, _, _, _, _, _, _, _, _, _, _]) _
  refine q_is rfl rfl (does_assign (u := (Bo false)) (ev rfl)) (by dsimp only [List.set]; try rfl) ?_
  refine wpList_nil (hK30 _ _ ?_)
  refine wp_seq_k fun K38 hK38 => ?_
  refine wp_region_lit ?_
  refine q_is rfl rfl (does_assign (u := (Iv 1048576)) (ev rfl)) (by dsimp only [List.set]; try rfl) ?_
  refine wpList_nil (hK38 _ _ ?_)
  refine wp_seq_k fun K39 hK39 => ?_
  refine wp_region_lit ?_
  refine q_is rfl rfl (does_loadAgg (cs := [(.slice p27 A_a.shape.nodes.length q28), (Fl r3), (Fl r5), (Fl r7), (Fl r9), (Fl r11), (Fl r13), (Fl r15), (Iv A_a.cam.width), (Iv A_a.cam.height), (Fl r17), (Fl r19), (Fl r21), (Fl r23), (Fl r25), (Iv A_a.march.steps)]) (ev rfl) Try.isAgg56 Try.sizeOf56 (Blk.cells hB33) rfl) (by dsimp only [List.set]; try rfl) ?_
  refine q_is rfl rfl (does_move (u := (Iv 1048576)) (ev rfl)) (by dsimp only [List.set]; try rfl) ?_
  refine seqd rfl rfl (does_call (args := #[(.agg #[(.slice p27 A_a.shape.nodes.length q28), (Fl r3), (Fl r5), (Fl r7), (Fl r9), (Fl r11), (Fl r13), (Fl r15), (Iv A_a.cam.width), (Iv A_a.cam.height), (Fl r17), (Fl r19), (Fl r21), (Fl r23), (Fl r25), (Iv A_a.march.steps)]), (Iv 1048576)]) cal17 (evs rfl) (c_laws_szView [(.slice p27 A_a.shape.nodes.length q28), (Fl r3), (Fl r5), (Fl r7), (Fl r9), (Fl r11), (Fl r13), (Fl r15), (Iv A_a.cam.width), (Iv A_a.cam.height), (Fl r17), (Fl r19), (Fl r21), (Fl r23), (Fl r25), (Iv A_a.march.steps)] A_a 1048576 _ ⟨r3, r5, r7, r9, r11, r13, r15, r17, r19, r21, r23, r25, (.slice p27 A_a.shape.nodes.length q28), rfl, h4, h6, h8, h10, h12, h14, h16, h18, h20, h22, h24, h26, (Sl.ext hs29 RNodeT.mono X37)⟩ (by omega) (by omega))) ?_; rintro _ w41 ⟨E40, ⟨i42, rfl, h43⟩⟩
  have X44 := Ext.gr X37 E40
  show wpList _ _ _ _ (fr [_, _, _, _, _, _, _, _, _, _, _, _, _, _, _, _, _, _, _, _, _, _, _, _, _, _, _]) _
  refine q_is rfl rfl (does_assign (u := (Iv i42)) (ev rfl)) (by dsimp only [List.set]; try rfl) ?_
  refine wpList_nil (hK39 _ _ ?_)
  refine wp_seq_k fun K45 hK45 => ?_
  refine wp_seq_k fun K46 hK46 => ?_
  refine wp_region_lit ?_
  refine q_is rfl rfl (does_move (u := (Iv i42)) (ev rfl)) (by dsimp only [List.set]; try rfl) ?_
  refine q_is rfl rfl (does_icmp (p := i42) (q := 0) (.inr (.inr (.inl rfl))) (ev rfl) (ev rfl)) (by dsimp only [List.set]; try rfl) ?_
  refine wpList_nil (hK46 _ _ ?_)
  refine wp_cond_split (t := icmp .lss i42 0) (ev rfl) (fun c47 => ?_) (fun c47 => ?_)
  · have c47' := c47
    (try simp only [icmp, Bool.and_eq_true, Bool.or_eq_true, Bool.and_eq_false_iff, Bool.or_eq_false_iff, Bool.not_eq_true', Bool.not_eq_false', decide_eq_true_eq, decide_eq_false_iff_not, beq_iff_eq, bne_iff_ne, beq_eq_false_iff_ne, bne_eq_false_iff_eq] at c47')
    refine wp_seq_k fun K48 hK48 => ?_
    refine wp_region_lit ?_
    refine q_is rfl rfl (does_assign (u := (Bo true)) (ev rfl)) (by dsimp only [List.set]; try rfl) ?_
    refine wpList_nil (hK48 _ _ ?_)
    refine wp_ret ?_
    dsimp only [Exit.then, Exit.inBlock]
    refine ret_val (v := (Bo true)) (res_T rfl (slot rfl)) X44 ?_
    try simp only [h4, h6, h8, h10, h12, h14, h16, h18, h20, h22, h24, h26] at c47
    exact rfl
  have c47' := c47
  (try simp only [icmp, Bool.and_eq_true, Bool.or_eq_true, Bool.and_eq_false_iff, Bool.or_eq_false_iff, Bool.not_eq_true', Bool.not_eq_false', decide_eq_true_eq, decide_eq_false_iff_not, beq_iff_eq, bne_iff_ne, beq_eq_false_iff_ne, bne_eq_false_iff_eq] at c47')
  refine wp_skip (hK45 _ _ ?_)
  refine wp_seq_k fun K49 hK49 => ?_
  refine wp_region_lit ?_
  refine q_is rfl rfl (does_loadAgg (cs := [(.slice p27 A_a.shape.nodes.length q28), (Fl r3), (Fl r5), (Fl r7), (Fl r9), (Fl r11), (Fl r13), (Fl r15), (Iv A_a.cam.width), (Iv A_a.cam.height), (Fl r17), (Fl r19), (Fl r21), (Fl r23), (Fl r25), (Iv A_a.march.steps)]) (ev rfl) Try.isAgg56 Try.sizeOf56 (Blk.cells (hB33.ext E40)) rfl) (by dsimp only [List.set]; try rfl) ?_
  refine seqd rfl rfl (does_call (args := #[(.agg #[(.slice p27 A_a.shape.nodes.length q28), (Fl r3), (Fl r5), (Fl r7), (Fl r9), (Fl r11), (Fl r13), (Fl r15), (Iv A_a.cam.width), (Iv A_a.cam.height), (Fl r17), (Fl r19), (Fl r21), (Fl r23), (Fl r25), (Iv A_a.march.steps)])]) cal19 (evs rfl) (c_laws_toView [(.slice p27 A_a.shape.nodes.length q28), (Fl r3), (Fl r5), (Fl r7), (Fl r9), (Fl r11), (Fl r13), (Fl r15), (Iv A_a.cam.width), (Iv A_a.cam.height), (Fl r17), (Fl r19), (Fl r21), (Fl r23), (Fl r25), (Iv A_a.march.steps)] A_a _ ⟨r3, r5, r7, r9, r11, r13, r15, r17, r19, r21, r23, r25, (.slice p27 A_a.shape.nodes.length q28), rfl, h4, h6, h8, h10, h12, h14, h16, h18, h20, h22, h24, h26, (Sl.ext hs29 RNodeT.mono X44)⟩ (by omega))) ?_; rintro _ w51 ⟨E50, ⟨cs53, rfl, hh52⟩⟩
  have X54 := Ext.gr X44 E50
  have n55 : b31 < w41.heap.size := Blk.lt (hB33.ext E40)
  obtain ⟨r58, r60, r62, r64, r66, r68, r70, r72, r74, r76, r78, r80, y56, rfl, h59, h61, h63, h65, h67, h69, h71, h73, h75, h77, h79, h81, h57⟩ := hh52.get
  have h57l := Sl.len h57; obtain ⟨p82, q83, rfl⟩ := Sl.shape h57
  have hh84 : Hang w41.heap.size w51 (fun u => Sl RNodeT 4 u (.slice p82 A_a.shape.nodes.length q83) A_a.shape.nodes) := fun u hu => by obtain ⟨_, _, _, _, _, _, _, _, _, _, _, _, _, hq, _, _, _, _, _, _, _, _, _, _, _, _, _⟩ := hh52 u hu; cases hq; assumption
  show wpList _ _ _ _ (fr [_, _, _, _, _, _, _, _, _, _, _, _, _, _, _, _, _, _, _, _, _, _, _, _, _, _, _]) _
  refine seqd rfl rfl (does_call (args := #[(.agg #[(.slice p82 A_a.shape.nodes.length q83), (Fl r58), (Fl r60), (Fl r62), (Fl r64), (Fl r66), (Fl r68), (Fl r70), (Iv A_a.cam.width), (Iv A_a.cam.height), (Fl r72), (Fl r74), (Fl r76), (Fl r78), (Fl r80), (Iv A_a.march.steps)])]) cal18 (evs rfl) (c_spec_ValidView [(.slice p82 A_a.shape.nodes.length q83), (Fl r58), (Fl r60), (Fl r62), (Fl r64), (Fl r66), (Fl r68), (Fl r70), (Iv A_a.cam.width), (Iv A_a.cam.height), (Fl r72), (Fl r74), (Fl r76), (Fl r78), (Fl r80), (Iv A_a.march.steps)] A_a _ ⟨r58, r60, r62, r64, r66, r68, r70, r72, r74, r76, r78, r80, (.slice p82 A_a.shape.nodes.length q83), rfl, h59, h61, h63, h65, h67, h69, h71, h73, h75, h77, h79, h81, hh84.get⟩)) ?_; rintro _ w86 ⟨E85, rfl⟩
  have X87 := Ext.gr X54 E85
  show wpList _ _ _ _ (fr [_, _, _, _, _, _, _, _, _, _, _, _, _, _, _, _, _, _, _, _, _, _, _, _, _, _, _]) _
  refine q_is rfl rfl (does_assign (u := (Bo (isView A_a))) (ev rfl)) (by dsimp only [List.set]; try rfl) ?_
  refine wpList_nil (hK49 _ _ ?_)
  refine wp_seq_k fun K88 hK88 => ?_
  refine wp_region_lit ?_
  refine q_is rfl rfl (does_loadAgg (cs := [(.slice p27 A_a.shape.nodes.length q28), (Fl r3), (Fl r5), (Fl r7), (Fl r9), (Fl r11), (Fl r13), (Fl r15), (Iv A_a.cam.width), (Iv A_a.cam.height), (Fl r17), (Fl r19), (Fl r21), (Fl r23), (Fl r25), (Iv A_a.march.steps)]) (ev rfl) Try.isAgg56 Try.sizeOf56 (Blk.cells (((hB33.ext E40).ext E50).ext E85)) rfl) (by dsimp only [List.set]; try rfl) ?_
  refine seqd rfl rfl (does_call (args := #[(.agg #[(.slice p27 A_a.shape.nodes.length q28), (Fl r3), (Fl r5), (Fl r7), (Fl r9), (Fl r11), (Fl r13), (Fl r15), (Iv A_a.cam.width), (Iv A_a.cam.height), (Fl r17), (Fl r19), (Fl r21), (Fl r23), (Fl r25), (Iv A_a.march.steps)])]) cal19 (evs rfl) (c_laws_toView [(.slice p27 A_a.shape.nodes.length q28), (Fl r3), (Fl r5), (Fl r7), (Fl r9), (Fl r11), (Fl r13), (Fl r15), (Iv A_a.cam.width), (Iv A_a.cam.height), (Fl r17), (Fl r19), (Fl r21), (Fl r23), (Fl r25), (Iv A_a.march.steps)] A_a _ ⟨r3, r5, r7, r9, r11, r13, r15, r17, r19, r21, r23, r25, (.slice p27 A_a.shape.nodes.length q28), rfl, h4, h6, h8, h10, h12, h14, h16, h18, h20, h22, h24, h26, (Sl.ext hs29 RNodeT.mono X87)⟩ (by omega))) ?_; rintro _ w90 ⟨E89, ⟨cs92, rfl, hh91⟩⟩
  have X93 := Ext.gr X87 E89
  have n94 : b31 < w86.heap.size := Blk.lt (((hB33.ext E40).ext E50).ext E85)
  obtain ⟨r97, r99, r101, r103, r105, r107, r109, r111, r113, r115, r117, r119, y95, rfl, h98, h100, h102, h104, h106, h108, h110, h112, h114, h116, h118, h120, h96⟩ := hh91.get
  have h96l := Sl.len h96; obtain ⟨p121, q122, rfl⟩ := Sl.shape h96
  have hh123 : Hang w86.heap.size w90 (fun u => Sl RNodeT 4 u (.slice p121 A_a.shape.nodes.length q122) A_a.shape.nodes) := fun u hu => by obtain ⟨_, _, _, _, _, _, _, _, _, _, _, _, _, hq, _, _, _, _, _, _, _, _, _, _, _, _, _⟩ := hh91 u hu; cases hq; assumption
  show wpList _ _ _ _ (fr [_, _, _, _, _, _, _, _, _, _, _, _, _, _, _, _, _, _, _, _, _, _, _, _, _, _, _]) _
  refine seqd rfl rfl (does_alloc z63) ?_; rintro _ w128 ⟨b124, rfl, hb125, hB126, E127⟩
  have n129 : b31 < b124 := Nat.lt_of_lt_of_le (Blk.lt ((((hB33.ext E40).ext E50).ext E85).ext E89)) hb125
  have g130 : w.heap.size ≤ b124 := Nat.le_trans (Below.size X93) hb125
  change Blk _ _ [(.slice none 0 0), (Fl 0), (Fl 0), (Fl 0), (Fl 0), (Fl 0), (Fl 0), (Fl 0), (Iv 0), (Iv 0), (Fl 0), (Fl 0), (Fl 0), (Fl 0), (Fl 0), (Iv 0)] at hB126
  have X131 := Ext.gr X93 E127
  show wpList _ _ _ _ (fr [_, _, _, _, _, _, _, _, _, _, _, _, _, _, _, _, _, _, _, _, _, _, _, _, _, _, _]) _
  refine seqn rfl rfl (does_store (n := 16) (cs := [(.slice none 0 0), (Fl 0), (Fl 0), (Fl 0), (Fl 0), (Fl 0), (Fl 0), (Fl 0), (Iv 0), (Iv 0), (Fl 0), (Fl 0), (Fl 0), (Fl 0), (Fl 0), (Iv 0)]) (u := (.agg #[(.slice p121 A_a.shape.nodes.length q122), (Fl r97), (Fl r99), (Fl r101), (Fl r103), (Fl r105), (Fl r107), (Fl r109), (Iv A_a.cam.width), (Iv A_a.cam.height), (Fl r111), (Fl r113), (Fl r115), (Fl r117), (Fl r119), (Iv A_a.march.steps)])) (ev rfl) (ev rfl) Try.sizeOf63 rfl hB126 (Nat.le_of_ble_eq_true rfl) rfl) ?_; rintro _ w134 ⟨rfl, W132, hB133⟩
  change Blk _ _ [(.slice p121 A_a.shape.nodes.length q122), (Fl r97), (Fl r99), (Fl r101), (Fl r103), (Fl r105), (Fl r107), (Fl r109), (Iv A_a.cam.width), (Iv A_a.cam.height), (Fl r111), (Fl r113), (Fl r115), (Fl r117), (Fl r119), (Iv A_a.march.steps)] at hB133
  have X135 := Below.wr X131 W132 g130
  refine wpList_nil (hK88 _ _ ?_)
  refine wp_seq_k fun K136 hK136 => ?_
  refine wp_region_lit ?_
  refine q_is rfl rfl (does_loadAgg (cs := [(.slice p121 A_a.shape.nodes.length q122), (Fl r97), (Fl r99), (Fl r101), (Fl r103), (Fl r105), (Fl r107), (Fl r109), (Iv A_a.cam.width), (Iv A_a.cam.height), (Fl r111), (Fl r113), (Fl r115), (Fl r117), (Fl r119), (Iv A_a.march.steps)]) (ev rfl) Try.isAgg63 Try.sizeOf63 (Blk.cells hB133) rfl) (by dsimp only [List.set]; try rfl) ?_
  refine seqd rfl rfl (does_call (args := #[(.agg #[(.slice p121 A_a.shape.nodes.length q122), (Fl r97), (Fl r99), (Fl r101), (Fl r103), (Fl r105), (Fl r107), (Fl r109), (Iv A_a.cam.width), (Iv A_a.cam.height), (Fl r111), (Fl r113), (Fl r115), (Fl r117), (Fl r119), (Iv A_a.march.steps)])]) cal20 (evs rfl) (c_impl_ValidView [(.slice p121 A_a.shape.nodes.length q122), (Fl r97), (Fl r99), (Fl r101), (Fl r103), (Fl r105), (Fl r107), (Fl r109), (Iv A_a.cam.width), (Iv A_a.cam.height), (Fl r111), (Fl r113), (Fl r115), (Fl r117), (Fl r119), (Iv A_a.march.steps)] A_a _ ⟨r97, r99, r101, r103, r105, r107, r109, r111, r113, r115, r117, r119, (.slice p121 A_a.shape.nodes.length q122), rfl, h98, h100, h102, h104, h106, h108, h110, h112, h114, h116, h118, h120, (hh123 _ (((Same.refl _ _).ext E127).wr W132 (.inr (Nat.le_trans (Nat.le_refl _) hb125))))⟩)) ?_; rintro _ w138 ⟨E137, rfl⟩
  have X139 := Ext.gr X135 E137
  show wpList _ _ _ _ (fr [_, _, _, _, _, _, _, _, _, _, _, _, _, _, _, _, _, _, _, _, _, _, _, _, _, _, _]) _
  refine q_is rfl rfl (does_assign (u := (Bo (isView A_a))) (ev rfl)) (by dsimp only [List.set]; try rfl) ?_
  refine wpList_nil (hK136 _ _ ?_)
  refine wp_seq_k fun K140 hK140 => ?_
  refine wp_seq_k fun K141 hK141 => ?_
  refine wp_region_lit ?_
  refine q_is rfl rfl (does_move (u := (Bo (isView A_a))) (ev rfl)) (by dsimp only [List.set]; try rfl) ?_
  refine q_is rfl rfl (does_move (u := (Bo (isView A_a))) (ev rfl)) (by dsimp only [List.set]; try rfl) ?_
  refine q_is rfl rfl (does_bne (p := (isView A_a)) (q := (isView A_a)) Try.underlying4 (ev rfl) (ev rfl)) (by dsimp only [List.set]; try rfl) ?_
  refine wpList_nil (hK141 _ _ ?_)
  refine wp_cond_split (t := (isView A_a) != (isView A_a)) (ev rfl) (fun c142 => ?_) (fun c142 => ?_)
  · have c142' := c142
    refine wp_seq_k fun K143 hK143 => ?_
    refine wp_region_lit ?_
    refine q_is rfl rfl (does_assign (u := (Bo false)) (ev rfl)) (by dsimp only [List.set]; try rfl) ?_
    refine wpList_nil (hK143 _ _ ?_)
    refine wp_ret ?_
    dsimp only [Exit.then, Exit.inBlock]
    refine ret_val (v := (Bo false)) (res_T rfl (slot rfl)) X139 ?_
    try simp only [h4, h6, h8, h10, h12, h14, h16, h18, h20, h22, h24, h26, h59, h61, h63, h65, h67, h69, h71, h73, h75, h77, h79, h81, h98, h100, h102, h104, h106, h108, h110, h112, h114, h116, h118, h120] at c47 c142
    have x144 : true = false := by first | with_reducible rfl | (simp only [sameView_self, bne_self_eq_false, h4, h6, h8, h10, h12, h14, h16, h18, h20, h22, h24, h26, h59, h61, h63, h65, h67, h69, h71, h73, h75, h77, h79, h81, h98, h100, h102, h104, h106, h108, h110, h112, h114, h116, h118, h120, c47, c142]; done) | (simp [sameView_self, bne_self_eq_false, h4, h6, h8, h10, h12, h14, h16, h18, h20, h22, h24, h26, h59, h61, h63, h65, h67, h69, h71, h73, h75, h77, h79, h81, h98, h100, h102, h104, h106, h108, h110, h112, h114, h116, h118, h120, c47, c142]; done) | (revert c47 c142; simp +contextual [sameView_self, bne_self_eq_false, h4, h6, h8, h10, h12, h14, h16, h18, h20, h22, h24, h26, h59, h61, h63, h65, h67, h69, h71, h73, h75, h77, h79, h81, h98, h100, h102, h104, h106, h108, h110, h112, h114, h116, h118, h120]; done) | (rcases c47' with hh | hh <;> simp only [hh, sameView_self, bne_self_eq_false, h4, h6, h8, h10, h12, h14, h16, h18, h20, h22, h24, h26, h59, h61, h63, h65, h67, h69, h71, h73, h75, h77, h79, h81, h98, h100, h102, h104, h106, h108, h110, h112, h114, h116, h118, h120, c47, c142]; done) | (rcases c142' with hh | hh <;> simp only [hh, sameView_self, bne_self_eq_false, h4, h6, h8, h10, h12, h14, h16, h18, h20, h22, h24, h26, h59, h61, h63, h65, h67, h69, h71, h73, h75, h77, h79, h81, h98, h100, h102, h104, h106, h108, h110, h112, h114, h116, h118, h120, c47, c142]; done) | (rcases c142' with hh | hh <;> simp_all [sameView_self, bne_self_eq_false]; done) | (rcases c142' with hh | hh | hh <;> simp_all [sameView_self, bne_self_eq_false]; done) | (rcases c142' with hh | hh | hh | hh <;> simp_all [sameView_self, bne_self_eq_false]; done) | (simp_all [sameView_self, bne_self_eq_false]; done) | rfl
    exact (by first | with_reducible rfl | rw [x144] | rfl)
  have c142' := c142
  refine wp_skip (hK140 _ _ ?_)
  refine wp_seq_k fun K145 hK145 => ?_
  refine wp_seq_k fun K146 hK146 => ?_
  refine region_draw (
    [Fact.pure [] (fun v => v = (.agg #[(.slice p121 A_a.shape.nodes.length q122), (Fl r97), (Fl r99), (Fl r101), (Fl r103), (Fl r105), (Fl r107), (Fl r109), (Iv A_a.cam.width), (Iv A_a.cam.height), (Fl r111), (Fl r113), (Fl r115), (Fl r117), (Fl r119), (Iv A_a.march.steps)])),
    Fact.pure [] (fun v => v = (.agg #[(.slice p27 A_a.shape.nodes.length q28), (Fl r3), (Fl r5), (Fl r7), (Fl r9), (Fl r11), (Fl r13), (Fl r15), (Iv A_a.cam.width), (Iv A_a.cam.height), (Fl r17), (Fl r19), (Fl r21), (Fl r23), (Fl r25), (Iv A_a.march.steps)])),
    Fact.mem [23] (fun v w' => ∃ cs_1 : List Value, v = (.agg cs_1.toArray) ∧ Hang w138.heap.size w' (fun u => RViewT u A_a cs_1)) (by rintro v w1 w2 hx ⟨z1, rfl, k0⟩; exact ⟨_, rfl, (k0.ext hx)⟩),
    Fact.pure [22, 24] (fun v => v = (Bo (sameView A_a A_a))),
    Fact.pure [25] (fun v => v = (Bo (!(sameView A_a A_a))))]) mixed (by kernel_rfl) (by intro _ _ d _ _ h; cases d <;> exact h) ?_
  obtain ⟨w147, hw149⟩ : ∃ w', w' = World.drew w138 := ⟨_, rfl⟩; rw [← hw149]; have E148 : Ext w138 w147 := by rw [hw149]; exact Ext.draw _
  clear hw149
  have X150 := Ext.gr X139 E148
  refine RW_d _ rfl (fun v => by dsimp only [List.set]; try rfl) (fun u hu hF => ?_) (fun v151 => ?_)
  · clear hF
    refine doesG_un rfl ?_
    refine (does_loadAgg (cs := [(.slice p121 A_a.shape.nodes.length q122), (Fl r97), (Fl r99), (Fl r101), (Fl r103), (Fl r105), (Fl r107), (Fl r109), (Iv A_a.cam.width), (Iv A_a.cam.height), (Fl r111), (Fl r113), (Fl r115), (Fl r117), (Fl r119), (Iv A_a.march.steps)]) (ev rfl) Try.isAgg63 Try.sizeOf63 (Blk.cells (((hB133.ext E137).ext E148).ext hu)) rfl).mono ?_; rintro _ _ ⟨rfl, rfl⟩
    exact ⟨rfl, Ext.refl _⟩
  refine RW_d _ rfl (fun v => by dsimp only [List.set]; try rfl) (fun u hu hF => ?_) (fun v152 => ?_)
  · clear hF
    refine doesG_un rfl ?_
    refine (does_loadAgg (cs := [(.slice p27 A_a.shape.nodes.length q28), (Fl r3), (Fl r5), (Fl r7), (Fl r9), (Fl r11), (Fl r13), (Fl r15), (Iv A_a.cam.width), (Iv A_a.cam.height), (Fl r17), (Fl r19), (Fl r21), (Fl r23), (Fl r25), (Iv A_a.march.steps)]) (ev rfl) Try.isAgg56 Try.sizeOf56 (Blk.cells (((((((((hB33.ext E40).ext E50).ext E85).ext E89).ext E127).wr W132 (Nat.ne_of_lt n129)).ext E137).ext E148).ext hu)) rfl).mono ?_; rintro _ _ ⟨rfl, rfl⟩
    exact ⟨rfl, Ext.refl _⟩
  refine RW_d _ rfl (fun v => by dsimp only [List.set]; try rfl) (fun u hu hF => ?_) (fun v153 => ?_)
  · have h23_ : v152 = (.agg #[(.slice p27 A_a.shape.nodes.length q28), (Fl r3), (Fl r5), (Fl r7), (Fl r9), (Fl r11), (Fl r13), (Fl r15), (Iv A_a.cam.width), (Iv A_a.cam.height), (Fl r17), (Fl r19), (Fl r21), (Fl r23), (Fl r25), (Iv A_a.march.steps)]) := hF.1
    clear hF
    refine doesG_un rfl ?_
    obtain rfl := h23_
    refine (does_call (args := #[(.agg #[(.slice p27 A_a.shape.nodes.length q28), (Fl r3), (Fl r5), (Fl r7), (Fl r9), (Fl r11), (Fl r13), (Fl r15), (Iv A_a.cam.width), (Iv A_a.cam.height), (Fl r17), (Fl r19), (Fl r21), (Fl r23), (Fl r25), (Iv A_a.march.steps)])]) cal19 (evs rfl) (c_laws_toView [(.slice p27 A_a.shape.nodes.length q28), (Fl r3), (Fl r5), (Fl r7), (Fl r9), (Fl r11), (Fl r13), (Fl r15), (Iv A_a.cam.width), (Iv A_a.cam.height), (Fl r17), (Fl r19), (Fl r21), (Fl r23), (Fl r25), (Iv A_a.march.steps)] A_a _ ⟨r3, r5, r7, r9, r11, r13, r15, r17, r19, r21, r23, r25, (.slice p27 A_a.shape.nodes.length q28), rfl, h4, h6, h8, h10, h12, h14, h16, h18, h20, h22, h24, h26, (Sl.ext (Sl.ext hs29 RNodeT.mono (Ext.gr X139 E148)) RNodeT.mono hu)⟩ (by omega))).mono ?_; rintro v u' ⟨hx, ⟨csn1, hv, k0⟩⟩
    exact ⟨⟨csn1, hv, (Hang.le k0 (Nat.le_trans (Below.size E148) (Below.size hu)))⟩, hx⟩
  refine RW_d _ rfl (fun v => by dsimp only [List.set]; try rfl) (fun u hu hF => ?_) (fun v154 => ?_)
  · have h22_ : v151 = (.agg #[(.slice p121 A_a.shape.nodes.length q122), (Fl r97), (Fl r99), (Fl r101), (Fl r103), (Fl r105), (Fl r107), (Fl r109), (Iv A_a.cam.width), (Iv A_a.cam.height), (Fl r111), (Fl r113), (Fl r115), (Fl r117), (Fl r119), (Iv A_a.march.steps)]) := hF.1
    have h24_ : ∃ cs_1 : List Value, v153 = (.agg cs_1.toArray) ∧ Hang w138.heap.size u (fun u => RViewT u A_a cs_1) := hF.2.1
    clear hF
    refine doesG_un rfl ?_
    obtain rfl := h22_
    obtain ⟨cs24_2, rfl, hh24_1⟩ := h24_
    obtain ⟨r24_5, r24_7, r24_9, r24_11, r24_13, r24_15, r24_17, r24_19, r24_21, r24_23, r24_25, r24_27, y24_3, rfl, h24_6, h24_8, h24_10, h24_12, h24_14, h24_16, h24_18, h24_20, h24_22, h24_24, h24_26, h24_28, h24_4⟩ := hh24_1.get
    have hh24_4 := h24_4; obtain ⟨p24_29, q24_30, rfl⟩ := Sl.shape h24_4
    refine (does_call (args := #[(.agg #[(.slice p121 A_a.shape.nodes.length q122), (Fl r97), (Fl r99), (Fl r101), (Fl r103), (Fl r105), (Fl r107), (Fl r109), (Iv A_a.cam.width), (Iv A_a.cam.height), (Fl r111), (Fl r113), (Fl r115), (Fl r117), (Fl r119), (Iv A_a.march.steps)]), (.agg #[(.slice p24_29 A_a.shape.nodes.length q24_30), (Fl r24_5), (Fl r24_7), (Fl r24_9), (Fl r24_11), (Fl r24_13), (Fl r24_15), (Fl r24_17), (Iv A_a.cam.width), (Iv A_a.cam.height), (Fl r24_19), (Fl r24_21), (Fl r24_23), (Fl r24_25), (Fl r24_27), (Iv A_a.march.steps)])]) cal21 (evs rfl) (c_laws_eqView [(.slice p121 A_a.shape.nodes.length q122), (Fl r97), (Fl r99), (Fl r101), (Fl r103), (Fl r105), (Fl r107), (Fl r109), (Iv A_a.cam.width), (Iv A_a.cam.height), (Fl r111), (Fl r113), (Fl r115), (Fl r117), (Fl r119), (Iv A_a.march.steps)] A_a [(.slice p24_29 A_a.shape.nodes.length q24_30), (Fl r24_5), (Fl r24_7), (Fl r24_9), (Fl r24_11), (Fl r24_13), (Fl r24_15), (Fl r24_17), (Iv A_a.cam.width), (Iv A_a.cam.height), (Fl r24_19), (Fl r24_21), (Fl r24_23), (Fl r24_25), (Fl r24_27), (Iv A_a.march.steps)] A_a _ ⟨r97, r99, r101, r103, r105, r107, r109, r111, r113, r115, r117, r119, (.slice p121 A_a.shape.nodes.length q122), rfl, h98, h100, h102, h104, h106, h108, h110, h112, h114, h116, h118, h120, (Sl.ext (hh123 _ (((((Same.refl _ _).ext E127).wr W132 (.inr (Nat.le_trans (Nat.le_refl _) hb125))).ext E137).ext E148)) RNodeT.mono hu)⟩ ⟨r24_5, r24_7, r24_9, r24_11, r24_13, r24_15, r24_17, r24_19, r24_21, r24_23, r24_25, r24_27, (.slice p24_29 A_a.shape.nodes.length q24_30), rfl, (by assumption), (by assumption), (by assumption), (by assumption), (by assumption), (by assumption), (by assumption), (by assumption), (by assumption), (by assumption), (by assumption), (by assumption), hh24_4⟩)).mono ?_; rintro v u' ⟨hx, hv⟩
    exact ⟨hv.trans (by simp only [h24_6, h24_8, h24_10, h24_12, h24_14, h24_16, h24_18, h24_20, h24_22, h24_24, h24_26, h24_28]), hx⟩
  refine RW_d _ rfl (fun v => by dsimp only [List.set]; try rfl) (fun u hu hF => ?_) (fun v155 => ?_)
  · have h25_ : v154 = (Bo (sameView A_a A_a)) := hF.1
    clear hF
    refine doesG_un rfl ?_
    obtain rfl := h25_
    refine (does_not (ev rfl)).mono ?_; rintro _ _ ⟨rfl, rfl⟩
    exact ⟨rfl, Ext.refl _⟩
  refine RW_fin ?_; intro w156 E157 hP158
  obtain ⟨⟨⟨⟨⟨-, -⟩, -⟩, -⟩, -⟩, q159⟩ := hP158
  have X160 := Ext.gr X150 E157
  have q159 : v155 = (Bo (!(sameView A_a A_a))) := q159
  obtain rfl := q159
  show wpList _ _ _ _ (fr [_, _, _, _, _, _, _, _, _, _, _, _, _, _, _, _, _, _, _, _, _, _, _, _, _, _, _]) _
  refine wpList_nil (hK146 _ _ ?_)
  refine wp_cond_split (t := !(sameView A_a A_a)) (ev rfl) (fun c161 => ?_) (fun c161 => ?_)
  · rw [Bool.not_eq_true'] at c161
    have c161' := c161
    refine wp_seq_k fun K162 hK162 => ?_
    refine wp_region_lit ?_
    refine q_is rfl rfl (does_assign (u := (Bo false)) (ev rfl)) (by dsimp only [List.set]; try rfl) ?_
    refine wpList_nil (hK162 _ _ ?_)
    refine wp_ret ?_
    dsimp only [Exit.then, Exit.inBlock]
    refine ret_val (v := (Bo false)) (res_T rfl (slot rfl)) X160 ?_
    try simp only [h4, h6, h8, h10, h12, h14, h16, h18, h20, h22, h24, h26, h59, h61, h63, h65, h67, h69, h71, h73, h75, h77, h79, h81, h98, h100, h102, h104, h106, h108, h110, h112, h114, h116, h118, h120] at c47 c142 c161
    have x163 : true = false := by first | with_reducible rfl | (simp only [sameView_self, bne_self_eq_false, h4, h6, h8, h10, h12, h14, h16, h18, h20, h22, h24, h26, h59, h61, h63, h65, h67, h69, h71, h73, h75, h77, h79, h81, h98, h100, h102, h104, h106, h108, h110, h112, h114, h116, h118, h120, c47, c142, c161]; done) | (simp [sameView_self, bne_self_eq_false, h4, h6, h8, h10, h12, h14, h16, h18, h20, h22, h24, h26, h59, h61, h63, h65, h67, h69, h71, h73, h75, h77, h79, h81, h98, h100, h102, h104, h106, h108, h110, h112, h114, h116, h118, h120, c47, c142, c161]; done) | (revert c47 c142 c161; simp +contextual [sameView_self, bne_self_eq_false, h4, h6, h8, h10, h12, h14, h16, h18, h20, h22, h24, h26, h59, h61, h63, h65, h67, h69, h71, h73, h75, h77, h79, h81, h98, h100, h102, h104, h106, h108, h110, h112, h114, h116, h118, h120]; done) | (rcases c47' with hh | hh <;> simp only [hh, sameView_self, bne_self_eq_false, h4, h6, h8, h10, h12, h14, h16, h18, h20, h22, h24, h26, h59, h61, h63, h65, h67, h69, h71, h73, h75, h77, h79, h81, h98, h100, h102, h104, h106, h108, h110, h112, h114, h116, h118, h120, c47, c142, c161]; done) | (rcases c142' with hh | hh <;> simp only [hh, sameView_self, bne_self_eq_false, h4, h6, h8, h10, h12, h14, h16, h18, h20, h22, h24, h26, h59, h61, h63, h65, h67, h69, h71, h73, h75, h77, h79, h81, h98, h100, h102, h104, h106, h108, h110, h112, h114, h116, h118, h120, c47, c142, c161]; done) | (rcases c161' with hh | hh <;> simp only [hh, sameView_self, bne_self_eq_false, h4, h6, h8, h10, h12, h14, h16, h18, h20, h22, h24, h26, h59, h61, h63, h65, h67, h69, h71, h73, h75, h77, h79, h81, h98, h100, h102, h104, h106, h108, h110, h112, h114, h116, h118, h120, c47, c142, c161]; done) | (rcases c161' with hh | hh <;> simp_all [sameView_self, bne_self_eq_false]; done) | (rcases c161' with hh | hh | hh <;> simp_all [sameView_self, bne_self_eq_false]; done) | (rcases c161' with hh | hh | hh | hh <;> simp_all [sameView_self, bne_self_eq_false]; done) | (simp_all [sameView_self, bne_self_eq_false]; done) | rfl
    exact (by first | with_reducible rfl | rw [x163] | rfl)
  rw [Bool.not_eq_false'] at c161
  have c161' := c161
  refine wp_skip (hK145 _ _ ?_)
  refine wp_seq_k fun K164 hK164 => ?_
  refine wp_region_lit ?_
  refine q_is rfl rfl (does_assign (u := (Bo true)) (ev rfl)) (by dsimp only [List.set]; try rfl) ?_
  refine wpList_nil (hK164 _ _ ?_)
  refine wp_ret ?_
  refine ret_val (v := (Bo true)) (res_T rfl (slot rfl)) X160 ?_
  try simp only [h4, h6, h8, h10, h12, h14, h16, h18, h20, h22, h24, h26, h59, h61, h63, h65, h67, h69, h71, h73, h75, h77, h79, h81, h98, h100, h102, h104, h106, h108, h110, h112, h114, h116, h118, h120] at c47 c142 c161
  exact rfl

end Go.Proofs.Ytiagimgdjngnfaa
