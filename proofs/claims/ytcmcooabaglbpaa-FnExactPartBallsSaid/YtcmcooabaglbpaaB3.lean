/- contracts of functions, each walked once -/
import Derived.Test.YtcmcooabaglbpaaB2
namespace Go.Proofs.Ytcmcooabaglbpaa
open Go Go.RowKit
set_option maxRecDepth 100000
set_option maxHeartbeats 3200000
set_option linter.unusedVariables false
set_option linter.unusedSimpArgs false

/- laws.eqVector -/
theorem c_laws_eqVector (a : List Value) (A_a : V3) (b : List Value) (A_b : V3) (w : World) (hv_a : RV3 w A_a a) (hv_b : RV3 w A_b b) : Gives Try.prog 39 #[(.agg a.toArray), (.agg b.toArray)] w (fun v w' => v = (Bo (sameV A_a A_b))) := by
  obtain ⟨r1, r3, r5, rfl, h2, h4, h6⟩ := hv_a
  obtain ⟨r7, r9, r11, rfl, h8, h10, h12⟩ := hv_b
  refine enter [(.agg #[(Fl r1), (Fl r3), (Fl r5)]), (.agg #[(Fl r7), (Fl r9), (Fl r11)]), Ud, Ud, Ud, Ud, Ud, Ud, Ud, Ud, Ud, Ud, Ud, Ud, Ud, Ud, Ud, Ud, Ud, Ud, Ud, Ud, Ud, Ud, Ud, Ud, Ud, Ud, Ud] Try.func39 rfl Try.ntmps39 rfl ?_
  refine wp_seq_k fun K13 hK13 => ?_
  refine wp_region_lit ?_
  refine seqd rfl rfl (does_box (u := (.agg #[(Fl r1), (Fl r3), (Fl r5)])) (ev rfl)) ?_; rintro _ w18 ⟨b14, rfl, hb15, hB16, E17⟩
  have g19 : w.heap.size ≤ b14 := Nat.le_trans (Below.size (Ext.refl w)) hb15
  change Blk _ _ [(Fl r1), (Fl r3), (Fl r5)] at hB16
  have X20 := Ext.gr (Ext.refl w) E17
  show wpList _ _ _ _ (fr [_, _, _, _, _, _, _, _, _, _, _, _, _, _, _, _, _, _, _, _, _, _, _, _, _, _, _, _, _]) _
  refine seqd rfl rfl (does_box (u := (.agg #[(Fl r7), (Fl r9), (Fl r11)])) (ev rfl)) ?_; rintro _ w25 ⟨b21, rfl, hb22, hB23, E24⟩
  have n26 : b14 < b21 := Nat.lt_of_lt_of_le (Blk.lt hB16) hb22
  have g27 : w.heap.size ≤ b21 := Nat.le_trans (Below.size X20) hb22
  change Blk _ _ [(Fl r7), (Fl r9), (Fl r11)] at hB23
  have X28 := Ext.gr X20 E24
  show wpList _ _ _ _ (fr [_, _, _, _, _, _, _, _, _, _, _, _, _, _, _, _, _, _, _, _, _, _, _, _, _, _, _, _, _]) _
  refine q_is rfl rfl (does_assign (u := (Bo false)) (ev rfl)) (by dsimp only [List.set]; try rfl) ?_
  refine wpList_nil (hK13 _ _ ?_)
  refine wp_seq_k fun K29 hK29 => ?_
  refine wp_seq_k fun K30 hK30 => ?_
  refine wp_region_lit ?_
  refine q_is rfl rfl (does_fieldAddr (ev rfl) fa32_0) (by dsimp only [List.set]; try rfl) ?_
  refine q_is rfl rfl (does_load (u := (Fl r1)) (ev rfl) Try.isAgg22 (Cells.at (Blk.cells (hB16.ext E24)) 0 rfl)) (by dsimp only [List.set]; try rfl) ?_
  refine seqd rfl rfl (does_widen Try.underlying22 Try.underlying75 (ev rfl)) ?_; rintro _ w34 ⟨r31, rfl, h32, E33⟩
  have X35 := Ext.gr X28 E33
  show wpList _ _ _ _ (fr [_, _, _, _, _, _, _, _, _, _, _, _, _, _, _, _, _, _, _, _, _, _, _, _, _, _, _, _, _]) _
  refine q_is rfl rfl (does_fieldAddr (ev rfl) fa32_0) (by dsimp only [List.set]; try rfl) ?_
  refine q_is rfl rfl (does_load (u := (Fl r7)) (ev rfl) Try.isAgg22 (Cells.at (Blk.cells (hB23.ext E33)) 0 rfl)) (by dsimp only [List.set]; try rfl) ?_
  refine seqd rfl rfl (does_widen Try.underlying22 Try.underlying75 (ev rfl)) ?_; rintro _ w39 ⟨r36, rfl, h37, E38⟩
  have X40 := Ext.gr X35 E38
  show wpList _ _ _ _ (fr [_, _, _, _, _, _, _, _, _, _, _, _, _, _, _, _, _, _, _, _, _, _, _, _, _, _, _, _, _]) _
  refine seqd rfl rfl (does_call (args := #[(Fd r31), (Fd r36)]) cal40 (evs rfl) (c_laws_sameFloat r31 r36 _)) ?_; rintro _ w42 ⟨E41, rfl⟩
  have X43 := Ext.gr X40 E41
  show wpList _ _ _ _ (fr [_, _, _, _, _, _, _, _, _, _, _, _, _, _, _, _, _, _, _, _, _, _, _, _, _, _, _, _, _]) _
  refine q_is rfl rfl (does_not (ev rfl)) (by dsimp only [List.set]; try rfl) ?_
  refine wpList_nil (hK30 _ _ ?_)
  refine wp_cond_split (t := !(sameF (cf .f64 r31) (cf .f64 r36))) (ev rfl) (fun c44 => ?_) (fun c44 => ?_)
  · rw [Bool.not_eq_true'] at c44
    have c44' := c44
    refine wp_seq_k fun K45 hK45 => ?_
    refine wp_region_lit ?_
    refine q_is rfl rfl (does_assign (u := (Bo false)) (ev rfl)) (by dsimp only [List.set]; try rfl) ?_
    refine wpList_nil (hK45 _ _ ?_)
    refine wp_ret ?_
    dsimp only [Exit.then, Exit.inBlock]
    refine ret_val (v := (Bo false)) (res_T rfl (slot rfl)) X43 ?_
    try simp only [h2, h4, h6, h8, h10, h12, h32, h37] at c44
    have x46 : (sameV A_a A_b) = false := by first | with_reducible rfl | (simp only [sameV, h2, h4, h6, h8, h10, h12, h32, h37, c44]; done) | (simp [sameV, h2, h4, h6, h8, h10, h12, h32, h37, c44]; done) | (revert c44; simp +contextual [sameV, h2, h4, h6, h8, h10, h12, h32, h37]; done) | (rcases c44' with hh | hh <;> simp only [hh, sameV, h2, h4, h6, h8, h10, h12, h32, h37, c44]; done) | (rcases c44' with hh | hh <;> simp_all [sameV]; done) | (rcases c44' with hh | hh | hh <;> simp_all [sameV]; done) | (rcases c44' with hh | hh | hh | hh <;> simp_all [sameV]; done) | (simp_all [sameV]; done) | rfl
    exact (by first | with_reducible rfl | rw [x46] | rfl)
  rw [Bool.not_eq_false'] at c44
  have c44' := c44
  refine wp_skip (hK29 _ _ ?_)
  refine wp_seq_k fun K47 hK47 => ?_
  refine wp_seq_k fun K48 hK48 => ?_
  refine wp_region_lit ?_
  refine q_is rfl rfl (does_fieldAddr (ev rfl) fa32_1) (by dsimp only [List.set]; try rfl) ?_
  refine q_is rfl rfl (does_load (u := (Fl r3)) (ev rfl) Try.isAgg22 (Cells.at (Blk.cells ((((hB16.ext E24).ext E33).ext E38).ext E41)) 1 rfl)) (by dsimp only [List.set]; try rfl) ?_
  refine seqd rfl rfl (does_widen Try.underlying22 Try.underlying75 (ev rfl)) ?_; rintro _ w52 ⟨r49, rfl, h50, E51⟩
  have X53 := Ext.gr X43 E51
  show wpList _ _ _ _ (fr [_, _, _, _, _, _, _, _, _, _, _, _, _, _, _, _, _, _, _, _, _, _, _, _, _, _, _, _, _]) _
  refine q_is rfl rfl (does_fieldAddr (ev rfl) fa32_1) (by dsimp only [List.set]; try rfl) ?_
  refine q_is rfl rfl (does_load (u := (Fl r9)) (ev rfl) Try.isAgg22 (Cells.at (Blk.cells ((((hB23.ext E33).ext E38).ext E41).ext E51)) 1 rfl)) (by dsimp only [List.set]; try rfl) ?_
  refine seqd rfl rfl (does_widen Try.underlying22 Try.underlying75 (ev rfl)) ?_; rintro _ w57 ⟨r54, rfl, h55, E56⟩
  have X58 := Ext.gr X53 E56
  show wpList _ _ _ _ (fr [_, _, _, _, _, _, _, _, _, _, _, _, _, _, _, _, _, _, _, _, _, _, _, _, _, _, _, _, _]) _
  refine seqd rfl rfl (does_call (args := #[(Fd r49), (Fd r54)]) cal40 (evs rfl) (c_laws_sameFloat r49 r54 _)) ?_; rintro _ w60 ⟨E59, rfl⟩
  have X61 := Ext.gr X58 E59
  show wpList _ _ _ _ (fr [_, _, _, _, _, _, _, _, _, _, _, _, _, _, _, _, _, _, _, _, _, _, _, _, _, _, _, _, _]) _
  refine q_is rfl rfl (does_not (ev rfl)) (by dsimp only [List.set]; try rfl) ?_
  refine wpList_nil (hK48 _ _ ?_)
  refine wp_cond_split (t := !(sameF (cf .f64 r49) (cf .f64 r54))) (ev rfl) (fun c62 => ?_) (fun c62 => ?_)
  · rw [Bool.not_eq_true'] at c62
    have c62' := c62
    refine wp_seq_k fun K63 hK63 => ?_
    refine wp_region_lit ?_
    refine q_is rfl rfl (does_assign (u := (Bo false)) (ev rfl)) (by dsimp only [List.set]; try rfl) ?_
    refine wpList_nil (hK63 _ _ ?_)
    refine wp_ret ?_
    dsimp only [Exit.then, Exit.inBlock]
    refine ret_val (v := (Bo false)) (res_T rfl (slot rfl)) X61 ?_
    try simp only [h2, h4, h6, h8, h10, h12, h32, h37, h50, h55] at c44 c62
    have x64 : (sameV A_a A_b) = false := by first | with_reducible rfl | (simp only [sameV, h2, h4, h6, h8, h10, h12, h32, h37, h50, h55, c44, c62]; done) | (simp [sameV, h2, h4, h6, h8, h10, h12, h32, h37, h50, h55, c44, c62]; done) | (revert c44 c62; simp +contextual [sameV, h2, h4, h6, h8, h10, h12, h32, h37, h50, h55]; done) | (rcases c44' with hh | hh <;> simp only [hh, sameV, h2, h4, h6, h8, h10, h12, h32, h37, h50, h55, c44, c62]; done) | (rcases c62' with hh | hh <;> simp only [hh, sameV, h2, h4, h6, h8, h10, h12, h32, h37, h50, h55, c44, c62]; done) | (rcases c62' with hh | hh <;> simp_all [sameV]; done) | (rcases c62' with hh | hh | hh <;> simp_all [sameV]; done) | (rcases c62' with hh | hh | hh | hh <;> simp_all [sameV]; done) | (simp_all [sameV]; done) | rfl
    exact (by first | with_reducible rfl | rw [x64] | rfl)
  rw [Bool.not_eq_false'] at c62
  have c62' := c62
  refine wp_skip (hK47 _ _ ?_)
  refine wp_seq_k fun K65 hK65 => ?_
  refine wp_seq_k fun K66 hK66 => ?_
  refine wp_region_lit ?_
  refine q_is rfl rfl (does_fieldAddr (ev rfl) fa32_2) (by dsimp only [List.set]; try rfl) ?_
  refine q_is rfl rfl (does_load (u := (Fl r5)) (ev rfl) Try.isAgg22 (Cells.at (Blk.cells (((((((hB16.ext E24).ext E33).ext E38).ext E41).ext E51).ext E56).ext E59)) 2 rfl)) (by dsimp only [List.set]; try rfl) ?_
  refine seqd rfl rfl (does_widen Try.underlying22 Try.underlying75 (ev rfl)) ?_; rintro _ w70 ⟨r67, rfl, h68, E69⟩
  have X71 := Ext.gr X61 E69
  show wpList _ _ _ _ (fr [_, _, _, _, _, _, _, _, _, _, _, _, _, _, _, _, _, _, _, _, _, _, _, _, _, _, _, _, _]) _
  refine q_is rfl rfl (does_fieldAddr (ev rfl) fa32_2) (by dsimp only [List.set]; try rfl) ?_
  refine q_is rfl rfl (does_load (u := (Fl r11)) (ev rfl) Try.isAgg22 (Cells.at (Blk.cells (((((((hB23.ext E33).ext E38).ext E41).ext E51).ext E56).ext E59).ext E69)) 2 rfl)) (by dsimp only [List.set]; try rfl) ?_
  refine seqd rfl rfl (does_widen Try.underlying22 Try.underlying75 (ev rfl)) ?_; rintro _ w75 ⟨r72, rfl, h73, E74⟩
  have X76 := Ext.gr X71 E74
  show wpList _ _ _ _ (fr [_, _, _, _, _, _, _, _, _, _, _, _, _, _, _, _, _, _, _, _, _, _, _, _, _, _, _, _, _]) _
  refine seqd rfl rfl (does_call (args := #[(Fd r67), (Fd r72)]) cal40 (evs rfl) (c_laws_sameFloat r67 r72 _)) ?_; rintro _ w78 ⟨E77, rfl⟩
  have X79 := Ext.gr X76 E77
  show wpList _ _ _ _ (fr [_, _, _, _, _, _, _, _, _, _, _, _, _, _, _, _, _, _, _, _, _, _, _, _, _, _, _, _, _]) _
  refine q_is rfl rfl (does_not (ev rfl)) (by dsimp only [List.set]; try rfl) ?_
  refine wpList_nil (hK66 _ _ ?_)
  refine wp_cond_split (t := !(sameF (cf .f64 r67) (cf .f64 r72))) (ev rfl) (fun c80 => ?_) (fun c80 => ?_)
  · rw [Bool.not_eq_true'] at c80
    have c80' := c80
    refine wp_seq_k fun K81 hK81 => ?_
    refine wp_region_lit ?_
    refine q_is rfl rfl (does_assign (u := (Bo false)) (ev rfl)) (by dsimp only [List.set]; try rfl) ?_
    refine wpList_nil (hK81 _ _ ?_)
    refine wp_ret ?_
    dsimp only [Exit.then, Exit.inBlock]
    refine ret_val (v := (Bo false)) (res_T rfl (slot rfl)) X79 ?_
    try simp only [h2, h4, h6, h8, h10, h12, h32, h37, h50, h55, h68, h73] at c44 c62 c80
    have x82 : (sameV A_a A_b) = false := by first | with_reducible rfl | (simp only [sameV, h2, h4, h6, h8, h10, h12, h32, h37, h50, h55, h68, h73, c44, c62, c80]; done) | (simp [sameV, h2, h4, h6, h8, h10, h12, h32, h37, h50, h55, h68, h73, c44, c62, c80]; done) | (revert c44 c62 c80; simp +contextual [sameV, h2, h4, h6, h8, h10, h12, h32, h37, h50, h55, h68, h73]; done) | (rcases c44' with hh | hh <;> simp only [hh, sameV, h2, h4, h6, h8, h10, h12, h32, h37, h50, h55, h68, h73, c44, c62, c80]; done) | (rcases c62' with hh | hh <;> simp only [hh, sameV, h2, h4, h6, h8, h10, h12, h32, h37, h50, h55, h68, h73, c44, c62, c80]; done) | (rcases c80' with hh | hh <;> simp only [hh, sameV, h2, h4, h6, h8, h10, h12, h32, h37, h50, h55, h68, h73, c44, c62, c80]; done) | (rcases c80' with hh | hh <;> simp_all [sameV]; done) | (rcases c80' with hh | hh | hh <;> simp_all [sameV]; done) | (rcases c80' with hh | hh | hh | hh <;> simp_all [sameV]; done) | (simp_all [sameV]; done) | rfl
    exact (by first | with_reducible rfl | rw [x82] | rfl)
  rw [Bool.not_eq_false'] at c80
  have c80' := c80
  refine wp_skip (hK65 _ _ ?_)
  refine wp_seq_k fun K83 hK83 => ?_
  refine wp_region_lit ?_
  refine q_is rfl rfl (does_assign (u := (Bo true)) (ev rfl)) (by dsimp only [List.set]; try rfl) ?_
  refine wpList_nil (hK83 _ _ ?_)
  refine wp_ret ?_
  refine ret_val (v := (Bo true)) (res_T rfl (slot rfl)) X79 ?_
  try simp only [h2, h4, h6, h8, h10, h12, h32, h37, h50, h55, h68, h73] at c44 c62 c80
  have x84 : (sameV A_a A_b) = true := by first | with_reducible rfl | (simp only [sameV, h2, h4, h6, h8, h10, h12, h32, h37, h50, h55, h68, h73, c44, c62, c80]; done) | (simp [sameV, h2, h4, h6, h8, h10, h12, h32, h37, h50, h55, h68, h73, c44, c62, c80]; done) | (revert c44 c62 c80; simp +contextual [sameV, h2, h4, h6, h8, h10, h12, h32, h37, h50, h55, h68, h73]; done) | (rcases c44' with hh | hh <;> simp only [hh, sameV, h2, h4, h6, h8, h10, h12, h32, h37, h50, h55, h68, h73, c44, c62, c80]; done) | (rcases c62' with hh | hh <;> simp only [hh, sameV, h2, h4, h6, h8, h10, h12, h32, h37, h50, h55, h68, h73, c44, c62, c80]; done) | (rcases c80' with hh | hh <;> simp only [hh, sameV, h2, h4, h6, h8, h10, h12, h32, h37, h50, h55, h68, h73, c44, c62, c80]; done) | (rcases c80' with hh | hh <;> simp_all [sameV]; done) | (rcases c80' with hh | hh | hh <;> simp_all [sameV]; done) | (rcases c80' with hh | hh | hh | hh <;> simp_all [sameV]; done) | (simp_all [sameV]; done) | rfl
  exact (by first | with_reducible rfl | rw [x84] | rfl)

/- laws.eqVectorS -/
theorem c_laws_eqVectorS (a : Value) (L_a : List V3) (b : Value) (L_b : List V3) (w : World) (hv_a : Sl RV3 3 w a L_a) (hv_b : Sl RV3 3 w b L_b) : Gives Try.prog 26 #[a, b] w (fun v w' => v = (Bo (sameX sameV L_a L_b))) := by
  have hlen_a := Sl.len hv_a; obtain ⟨p_a, q_a, rfl⟩ := Sl.shape hv_a
  have hlen_b := Sl.len hv_b; obtain ⟨p_b, q_b, rfl⟩ := Sl.shape hv_b
  refine enter [(.slice p_a L_a.length q_a), (.slice p_b L_b.length q_b), Ud, Ud, Ud, Ud, Ud, Ud, Ud, Ud, Ud, Ud, Ud, Ud, Ud, Ud, Ud, Ud, Ud, Ud, Ud, Ud, Ud, Ud, Ud, Ud, Ud] Try.func26 rfl Try.ntmps26 rfl ?_
  refine wp_seq_k fun K1 hK1 => ?_
  refine wp_region_lit ?_
  refine q_is rfl rfl (does_assign (u := (Bo false)) (ev rfl)) (by dsimp only [List.set]; try rfl) ?_
  refine wpList_nil (hK1 _ _ ?_)
  refine wp_seq_k fun K2 hK2 => ?_
  refine wp_seq_k fun K3 hK3 => ?_
  refine wp_region_lit ?_
  refine q_is rfl rfl (does_move (u := (.slice p_a L_a.length q_a)) (ev rfl)) (by dsimp only [List.set]; try rfl) ?_
  refine q_is rfl rfl (does_len_slice Try.underlying47 (ev rfl)) (by dsimp only [List.set]; try rfl) ?_
  refine q_is rfl rfl (does_move (u := (.slice p_b L_b.length q_b)) (ev rfl)) (by dsimp only [List.set]; try rfl) ?_
  refine q_is rfl rfl (does_len_slice Try.underlying47 (ev rfl)) (by dsimp only [List.set]; try rfl) ?_
  refine q_is rfl rfl (does_icmp (p := (L_a.length : Int)) (q := (L_b.length : Int)) (.inr (.inl rfl)) (ev rfl) (ev rfl)) (by dsimp only [List.set]; try rfl) ?_
  refine wpList_nil (hK3 _ _ ?_)
  refine wp_cond_split (t := icmp .neq (L_a.length : Int) (L_b.length : Int)) (ev rfl) (fun c4 => ?_) (fun c4 => ?_)
  · have c4' := c4
    (try simp only [icmp, Bool.and_eq_true, Bool.or_eq_true, Bool.and_eq_false_iff, Bool.or_eq_false_iff, Bool.not_eq_true', Bool.not_eq_false', decide_eq_true_eq, decide_eq_false_iff_not, beq_iff_eq, bne_iff_ne, beq_eq_false_iff_ne, bne_eq_false_iff_eq] at c4')
    refine wp_seq_k fun K5 hK5 => ?_
    refine wp_region_lit ?_
    refine q_is rfl rfl (does_assign (u := (Bo false)) (ev rfl)) (by dsimp only [List.set]; try rfl) ?_
    refine wpList_nil (hK5 _ _ ?_)
    refine wp_ret ?_
    dsimp only [Exit.then, Exit.inBlock]
    refine ret_val (v := (Bo false)) (res_T rfl (slot rfl)) (Ext.refl w) ?_
    have x6 : (sameX sameV L_a L_b) = false := by first | exact (sameX_len (by omega)) | exact (sameX_not (by omega) (by assumption) (by assumption) (by simp_all)) | exact (sameX_all (by omega) (by omega) hs)
    exact (by first | with_reducible rfl | rw [x6] | rfl)
  have c4' := c4
  (try simp only [icmp, Bool.and_eq_true, Bool.or_eq_true, Bool.and_eq_false_iff, Bool.or_eq_false_iff, Bool.not_eq_true', Bool.not_eq_false', decide_eq_true_eq, decide_eq_false_iff_not, beq_iff_eq, bne_iff_ne, beq_eq_false_iff_ne, bne_eq_false_iff_eq] at c4')
  refine wp_skip (hK2 _ _ ?_)
  refine wp_seq_k fun K7 hK7 => ?_
  refine wp_seq_k fun K8 hK8 => ?_
  refine wp_region_lit ?_
  refine q_is rfl rfl (does_assign (u := (Iv 0)) (ev rfl)) (by dsimp only [List.set]; try rfl) ?_
  refine wpList_nil (hK8 _ _ ?_)
  refine wp_block ?_
  refine loop_ghost (σ := Nat) (fun k a w' => ∃ u9 : Nat → Value, a = fr [(.slice p_a L_a.length q_a), (.slice p_b L_b.length q_b), Ud, Ud, (u9 4), (Iv (k : Int)), (.slice p_a L_a.length q_a), (Iv (L_a.length : Int)), (.slice p_b L_b.length q_b), (Iv (L_b.length : Int)), (Bo (icmp .neq (L_a.length : Int) (L_b.length : Int))), (u9 11), (u9 12), (u9 13), (u9 14), (u9 15), (u9 16), (u9 17), (u9 18), (u9 19), (u9 20), (u9 21), (u9 22), (u9 23), (u9 24), (u9 25), (u9 26)] ∧ Ext w w' ∧ (k ≤ L_a.length ∧ SameXTo sameV L_a L_b k)) (fun k => L_a.length - k) 0 ?_ ?_
  · refine ⟨fun t => (([(.slice p_a L_a.length q_a), (.slice p_b L_b.length q_b), Ud, Ud, (Bo false), (Iv 0), (.slice p_a L_a.length q_a), (Iv (L_a.length : Int)), (.slice p_b L_b.length q_b), (Iv (L_b.length : Int)), (Bo (icmp .neq (L_a.length : Int) (L_b.length : Int))), Ud, Ud, Ud, Ud, Ud, Ud, Ud, Ud, Ud, Ud, Ud, Ud, Ud, Ud, Ud, Ud] : List Value)[t]?).getD undef, rfl, Ext.refl _, ?_⟩
    exact ⟨Nat.zero_le _, SameXTo.zero⟩
  · rintro k a w10 ⟨u9, rfl, E11, ⟨hk, hs⟩⟩
    have X13 := Ext.gr (Ext.refl w) E11
    refine wp_seq_k fun K14 hK14 => ?_
    refine wp_seq_k fun K15 hK15 => ?_
    refine wp_region_lit ?_
    refine q_is rfl rfl (does_move (u := (Iv (k : Int))) (ev rfl)) (by dsimp only [List.set]; try rfl) ?_
    refine q_is rfl rfl (does_move (u := (.slice p_a L_a.length q_a)) (ev rfl)) (by dsimp only [List.set]; try rfl) ?_
    refine q_is rfl rfl (does_len_slice Try.underlying47 (ev rfl)) (by dsimp only [List.set]; try rfl) ?_
    refine q_is rfl rfl (does_icmp (p := (k : Int)) (q := (L_a.length : Int)) (.inr (.inr (.inl rfl))) (ev rfl) (ev rfl)) (by dsimp only [List.set]; try rfl) ?_
    refine wpList_nil (hK15 _ _ ?_)
    refine wp_cond_split (t := icmp .lss (k : Int) (L_a.length : Int)) (ev rfl) (fun c16 => ?_) (fun c16 => ?_)
    · have c16' := c16
      (try simp only [icmp, Bool.and_eq_true, Bool.or_eq_true, Bool.and_eq_false_iff, Bool.or_eq_false_iff, Bool.not_eq_true', Bool.not_eq_false', decide_eq_true_eq, decide_eq_false_iff_not, beq_iff_eq, bne_iff_ne, beq_eq_false_iff_ne, bne_eq_false_iff_eq] at c16')
      refine wp_skip (hK14 _ _ ?_)
      refine wp_seq_k fun K17 hK17 => ?_
      refine wp_block ?_
      refine wp_seq_k fun K18 hK18 => ?_
      obtain ⟨el1, hel1⟩ : ∃ e, L_a[k]? = some e := ⟨_, List.getElem?_eq_getElem (by omega)⟩
      obtain ⟨el2, hel2⟩ : ∃ e, L_b[k]? = some e := ⟨_, List.getElem?_eq_getElem (by omega)⟩
      refine region_draw (
        [Fact.pure [] (fun v => v = (.slice p_a L_a.length q_a)),
    Fact.pure [] (fun v => v = (Iv (k : Int))),
    Fact.mem [17, 18] (fun v w' => PtrR RV3 w' v el1) (by intro v w1 w2 hx h; exact h.ext RV3.mono hx),
    Fact.pure [19] (fun v => ∃ cs_1 : List Value, v = (.agg cs_1.toArray) ∧ RV3 w el1 cs_1),
    Fact.pure [] (fun v => v = (.slice p_b L_b.length q_b)),
    Fact.pure [] (fun v => v = (Iv (k : Int))),
    Fact.mem [21, 22] (fun v w' => PtrR RV3 w' v el2) (by intro v w1 w2 hx h; exact h.ext RV3.mono hx),
    Fact.pure [23] (fun v => ∃ cs_1 : List Value, v = (.agg cs_1.toArray) ∧ RV3 w el2 cs_1),
    Fact.pure [20, 24] (fun v => v = (Bo (sameV el1 el2))),
    Fact.pure [25] (fun v => v = (Bo (!(sameV el1 el2))))]) mixed (by kernel_rfl) (by intro _ _ d _ _ h; cases d <;> exact h) ?_
      obtain ⟨w19, hw21⟩ : ∃ w', w' = World.drew w10 := ⟨_, rfl⟩; rw [← hw21]; have E20 : Ext w10 w19 := by rw [hw21]; exact Ext.draw _
      clear hw21
      have X22 := Ext.gr X13 E20
      refine RW_d _ rfl (fun v => by dsimp only [List.set]; try rfl) (fun u hu hF => ?_) (fun v23 => ?_)
      · clear hF
        refine doesG_un rfl ?_
        refine (does_move (u := (.slice p_a L_a.length q_a)) (ev rfl)).mono ?_; rintro _ _ ⟨rfl, rfl⟩
        exact ⟨rfl, Ext.refl _⟩
      refine RW_d _ rfl (fun v => by dsimp only [List.set]; try rfl) (fun u hu hF => ?_) (fun v24 => ?_)
      · clear hF
        refine doesG_un rfl ?_
        refine (does_move (u := (Iv (k : Int))) (ev rfl)).mono ?_; rintro _ _ ⟨rfl, rfl⟩
        exact ⟨rfl, Ext.refl _⟩
      refine RW_d _ rfl (fun v => by dsimp only [List.set]; try rfl) (fun u hu hF => ?_) (fun v25 => ?_)
      · have h17_ : v23 = (.slice p_a L_a.length q_a) := hF.1
        have h18_ : v24 = (Iv (k : Int)) := hF.2.1
        clear hF
        refine doesG_un rfl ?_
        obtain rfl := h17_
        obtain rfl := h18_
        refine (does_indexSl (R := RV3) (i := (k : Int)) (xs := L_a) (e := el1) Try.underlying47 Try.sizeOf32 (ev rfl) (ev rfl) (Sl.ext (Sl.ext hv_a RV3.mono (Ext.gr X13 E20)) RV3.mono hu) (by omega) hel1).mono ?_; rintro v u' ⟨b, of, cs, hv, hc, hR, hu'⟩; subst hu'
        exact ⟨⟨b, of, cs, hv, hc, hR⟩, Ext.refl _⟩
      refine RW_d _ rfl (fun v => by dsimp only [List.set]; try rfl) (fun u hu hF => ?_) (fun v26 => ?_)
      · have h19_ : PtrR RV3 u v25 el1 := hF.1
        clear hF
        refine doesG_un rfl ?_
        obtain ⟨b19_, o19_, _, rfl, hc19_, ⟨r19_1, r19_3, r19_5, rfl, h19_2, h19_4, h19_6⟩⟩ := h19_
        refine (does_loadAgg (cs := [(Fl r19_1), (Fl r19_3), (Fl r19_5)]) (ev rfl) Try.isAgg32 Try.sizeOf32 hc19_ rfl).mono ?_; rintro _ _ ⟨rfl, rfl⟩
        exact ⟨⟨[(Fl r19_1), (Fl r19_3), (Fl r19_5)], rfl, ⟨r19_1, r19_3, r19_5, rfl, (by first | assumption | rfl), (by first | assumption | rfl), (by first | assumption | rfl)⟩⟩, Ext.refl _⟩
      refine RW_d _ rfl (fun v => by dsimp only [List.set]; try rfl) (fun u hu hF => ?_) (fun v27 => ?_)
      · clear hF
        refine doesG_un rfl ?_
        refine (does_move (u := (.slice p_b L_b.length q_b)) (ev rfl)).mono ?_; rintro _ _ ⟨rfl, rfl⟩
        exact ⟨rfl, Ext.refl _⟩
      refine RW_d _ rfl (fun v => by dsimp only [List.set]; try rfl) (fun u hu hF => ?_) (fun v28 => ?_)
      · clear hF
        refine doesG_un rfl ?_
        refine (does_move (u := (Iv (k : Int))) (ev rfl)).mono ?_; rintro _ _ ⟨rfl, rfl⟩
        exact ⟨rfl, Ext.refl _⟩
      refine RW_d _ rfl (fun v => by dsimp only [List.set]; try rfl) (fun u hu hF => ?_) (fun v29 => ?_)
      · have h21_ : v27 = (.slice p_b L_b.length q_b) := hF.1
        have h22_ : v28 = (Iv (k : Int)) := hF.2.1
        clear hF
        refine doesG_un rfl ?_
        obtain rfl := h21_
        obtain rfl := h22_
        refine (does_indexSl (R := RV3) (i := (k : Int)) (xs := L_b) (e := el2) Try.underlying47 Try.sizeOf32 (ev rfl) (ev rfl) (Sl.ext (Sl.ext hv_b RV3.mono (Ext.gr X13 E20)) RV3.mono hu) (by omega) hel2).mono ?_; rintro v u' ⟨b, of, cs, hv, hc, hR, hu'⟩; subst hu'
        exact ⟨⟨b, of, cs, hv, hc, hR⟩, Ext.refl _⟩
      refine RW_d _ rfl (fun v => by dsimp only [List.set]; try rfl) (fun u hu hF => ?_) (fun v30 => ?_)
      · have h23_ : PtrR RV3 u v29 el2 := hF.1
        clear hF
        refine doesG_un rfl ?_
        obtain ⟨b23_, o23_, _, rfl, hc23_, ⟨r23_1, r23_3, r23_5, rfl, h23_2, h23_4, h23_6⟩⟩ := h23_
        refine (does_loadAgg (cs := [(Fl r23_1), (Fl r23_3), (Fl r23_5)]) (ev rfl) Try.isAgg32 Try.sizeOf32 hc23_ rfl).mono ?_; rintro _ _ ⟨rfl, rfl⟩
        exact ⟨⟨[(Fl r23_1), (Fl r23_3), (Fl r23_5)], rfl, ⟨r23_1, r23_3, r23_5, rfl, (by first | assumption | rfl), (by first | assumption | rfl), (by first | assumption | rfl)⟩⟩, Ext.refl _⟩
      refine RW_d _ rfl (fun v => by dsimp only [List.set]; try rfl) (fun u hu hF => ?_) (fun v31 => ?_)
      · have h20_ : ∃ cs_1 : List Value, v26 = (.agg cs_1.toArray) ∧ RV3 w el1 cs_1 := hF.1
        have h24_ : ∃ cs_1 : List Value, v30 = (.agg cs_1.toArray) ∧ RV3 w el2 cs_1 := hF.2.1
        clear hF
        refine doesG_un rfl ?_
        obtain ⟨_, rfl, ⟨r20_1, r20_3, r20_5, rfl, h20_2, h20_4, h20_6⟩⟩ := h20_
        obtain ⟨_, rfl, ⟨r24_1, r24_3, r24_5, rfl, h24_2, h24_4, h24_6⟩⟩ := h24_
        refine (does_call (args := #[(.agg #[(Fl r20_1), (Fl r20_3), (Fl r20_5)]), (.agg #[(Fl r24_1), (Fl r24_3), (Fl r24_5)])]) cal39 (evs rfl) (c_laws_eqVector [(Fl r20_1), (Fl r20_3), (Fl r20_5)] el1 [(Fl r24_1), (Fl r24_3), (Fl r24_5)] el2 _ ⟨r20_1, r20_3, r20_5, rfl, (by assumption), (by assumption), (by assumption)⟩ ⟨r24_1, r24_3, r24_5, rfl, (by assumption), (by assumption), (by assumption)⟩)).mono ?_; rintro v u' ⟨hx, hv⟩
        exact ⟨hv.trans (by simp only [h20_2, h20_4, h20_6, h24_2, h24_4, h24_6]), hx⟩
      refine RW_d _ rfl (fun v => by dsimp only [List.set]; try rfl) (fun u hu hF => ?_) (fun v32 => ?_)
      · have h25_ : v31 = (Bo (sameV el1 el2)) := hF.1
        clear hF
        refine doesG_un rfl ?_
        obtain rfl := h25_
        refine (does_not (ev rfl)).mono ?_; rintro _ _ ⟨rfl, rfl⟩
        exact ⟨rfl, Ext.refl _⟩
      refine RW_fin ?_; intro w33 E34 hP35
      obtain ⟨⟨⟨⟨⟨⟨⟨⟨⟨⟨-, -⟩, -⟩, -⟩, -⟩, -⟩, -⟩, -⟩, -⟩, -⟩, q36⟩ := hP35
      have X37 := Ext.gr X22 E34
      have q36 : v32 = (Bo (!(sameV el1 el2))) := q36
      obtain rfl := q36
      show wpList _ _ _ _ (fr [_, _, _, _, _, _, _, _, _, _, _, _, _, _, _, _, _, _, _, _, _, _, _, _, _, _, _]) _
      refine wpList_nil (hK18 _ _ ?_)
      refine wp_cond_split (t := !(sameV el1 el2)) (ev rfl) (fun c38 => ?_) (fun c38 => ?_)
      · rw [Bool.not_eq_true'] at c38
        have c38' := c38
        refine wp_seq_k fun K39 hK39 => ?_
        refine wp_region_lit ?_
        refine q_is rfl rfl (does_assign (u := (Bo false)) (ev rfl)) (by dsimp only [List.set]; try rfl) ?_
        refine wpList_nil (hK39 _ _ ?_)
        refine wp_ret ?_
        dsimp only [Exit.then, Exit.inBlock]
        refine ret_val (v := (Bo false)) (res_T rfl (slot rfl)) X37 ?_
        try simp only [hel1, hel2] at c4 c16 c38
        have x40 : (sameX sameV L_a L_b) = false := by first | exact (sameX_len (by omega)) | exact (sameX_not (by omega) (by assumption) (by assumption) (by simp_all)) | exact (sameX_all (by omega) (by omega) hs)
        exact (by first | with_reducible rfl | rw [x40] | rfl)
      rw [Bool.not_eq_false'] at c38
      have c38' := c38
      refine wp_skip (hK17 _ _ ?_)
      refine wp_region_lit ?_
      refine q_is rfl rfl (does_move (u := (Iv (k : Int))) (ev rfl)) (by dsimp only [List.set]; try rfl) ?_
      refine q_is rfl rfl (does_iarith (p := (k : Int)) (q := 1) (r := (k : Int) + 1) (ev rfl) (ev rfl) (.inl ⟨rfl, (in_i64 (by omega) (by omega)).symm⟩)) (by dsimp only [List.set]; try rfl) ?_
      refine q_is rfl rfl (does_assign (u := (Iv ((k : Int) + 1))) (ev rfl)) (by dsimp only [List.set]; try rfl) ?_
      refine wpList_nil ?_
      refine ⟨k + 1, ⟨fun t => (([(.slice p_a L_a.length q_a), (.slice p_b L_b.length q_b), Ud, Ud, (u9 4), (Iv ((k : Int) + 1)), (.slice p_a L_a.length q_a), (Iv (L_a.length : Int)), (.slice p_b L_b.length q_b), (Iv (L_b.length : Int)), (Bo (icmp .neq (L_a.length : Int) (L_b.length : Int))), (Iv (k : Int)), (.slice p_a L_a.length q_a), (Iv (L_a.length : Int)), (Bo (icmp .lss (k : Int) (L_a.length : Int))), (Iv (k : Int)), (Iv ((k : Int) + 1)), v23, v24, v25, v26, v27, v28, v29, v30, v31, (Bo (!(sameV el1 el2)))] : List Value)[t]?).getD undef, ?_, (Ext.gr (Ext.gr E11 E20) E34), ?_⟩, ?_⟩
      · first | rfl | (simp only [Nat.cast_add, Nat.cast_one, Int.natCast_add, Int.natCast_one]; rfl)
      · exact ⟨by omega, SameXTo.step hs (by assumption) (by assumption) (by simp_all)⟩
      · omega
    have c16' := c16
    (try simp only [icmp, Bool.and_eq_true, Bool.or_eq_true, Bool.and_eq_false_iff, Bool.or_eq_false_iff, Bool.not_eq_true', Bool.not_eq_false', decide_eq_true_eq, decide_eq_false_iff_not, beq_iff_eq, bne_iff_ne, beq_eq_false_iff_ne, bne_eq_false_iff_eq] at c16')
    refine wp_exit ?_
    refine hK7 _ _ ?_
    refine wp_seq_k fun K41 hK41 => ?_
    refine wp_region_lit ?_
    refine q_is rfl rfl (does_assign (u := (Bo true)) (ev rfl)) (by dsimp only [List.set]; try rfl) ?_
    refine wpList_nil (hK41 _ _ ?_)
    refine wp_ret ?_
    refine ret_val (v := (Bo true)) (res_T rfl (slot rfl)) X13 ?_
    have x42 : (sameX sameV L_a L_b) = true := by first | exact (sameX_len (by omega)) | exact (sameX_not (by omega) (by assumption) (by assumption) (by simp_all)) | exact (sameX_all (by omega) (by omega) hs)
    exact (by first | with_reducible rfl | rw [x42] | rfl)

/- laws.eqFloat32S -/
theorem c_laws_eqFloat32S (a : Value) (L_a : List Nat) (b : Value) (L_b : List Nat) (w : World) (hv_a : Sl RF 1 w a L_a) (hv_b : Sl RF 1 w b L_b) : Gives Try.prog 27 #[a, b] w (fun v w' => v = (Bo (sameL L_a L_b))) := by
  have hlen_a := Sl.len hv_a; obtain ⟨p_a, q_a, rfl⟩ := Sl.shape hv_a
  have hlen_b := Sl.len hv_b; obtain ⟨p_b, q_b, rfl⟩ := Sl.shape hv_b
  refine enter [(.slice p_a L_a.length q_a), (.slice p_b L_b.length q_b), Ud, Ud, Ud, Ud, Ud, Ud, Ud, Ud, Ud, Ud, Ud, Ud, Ud, Ud, Ud, Ud, Ud, Ud, Ud, Ud, Ud, Ud, Ud, Ud, Ud, Ud, Ud] Try.func27 rfl Try.ntmps27 rfl ?_
  refine wp_seq_k fun K1 hK1 => ?_
  refine wp_region_lit ?_
  refine q_is rfl rfl (does_assign (u := (Bo false)) (ev rfl)) (by dsimp only [List.set]; try rfl) ?_
  refine wpList_nil (hK1 _ _ ?_)
  refine wp_seq_k fun K2 hK2 => ?_
  refine wp_seq_k fun K3 hK3 => ?_
  refine wp_region_lit ?_
  refine q_is rfl rfl (does_move (u := (.slice p_a L_a.length q_a)) (ev rfl)) (by dsimp only [List.set]; try rfl) ?_
  refine q_is rfl rfl (does_len_slice Try.underlying25 (ev rfl)) (by dsimp only [List.set]; try rfl) ?_
  refine q_is rfl rfl (does_move (u := (.slice p_b L_b.length q_b)) (ev rfl)) (by dsimp only [List.set]; try rfl) ?_
  refine q_is rfl rfl (does_len_slice Try.underlying25 (ev rfl)) (by dsimp only [List.set]; try rfl) ?_
  refine q_is rfl rfl (does_icmp (p := (L_a.length : Int)) (q := (L_b.length : Int)) (.inr (.inl rfl)) (ev rfl) (ev rfl)) (by dsimp only [List.set]; try rfl) ?_
  refine wpList_nil (hK3 _ _ ?_)
  refine wp_cond_split (t := icmp .neq (L_a.length : Int) (L_b.length : Int)) (ev rfl) (fun c4 => ?_) (fun c4 => ?_)
  · have c4' := c4
    (try simp only [icmp, Bool.and_eq_true, Bool.or_eq_true, Bool.and_eq_false_iff, Bool.or_eq_false_iff, Bool.not_eq_true', Bool.not_eq_false', decide_eq_true_eq, decide_eq_false_iff_not, beq_iff_eq, bne_iff_ne, beq_eq_false_iff_ne, bne_eq_false_iff_eq] at c4')
    refine wp_seq_k fun K5 hK5 => ?_
    refine wp_region_lit ?_
    refine q_is rfl rfl (does_assign (u := (Bo false)) (ev rfl)) (by dsimp only [List.set]; try rfl) ?_
    refine wpList_nil (hK5 _ _ ?_)
    refine wp_ret ?_
    dsimp only [Exit.then, Exit.inBlock]
    refine ret_val (v := (Bo false)) (res_T rfl (slot rfl)) (Ext.refl w) ?_
    have x6 : (sameL L_a L_b) = false := by first | exact (sameL_len (by omega)) | exact (sameL_not (by omega) (by assumption) (by assumption) (by simp_all)) | exact (sameL_all (by omega) (by omega) hs)
    exact (by first | with_reducible rfl | rw [x6] | rfl)
  have c4' := c4
  (try simp only [icmp, Bool.and_eq_true, Bool.or_eq_true, Bool.and_eq_false_iff, Bool.or_eq_false_iff, Bool.not_eq_true', Bool.not_eq_false', decide_eq_true_eq, decide_eq_false_iff_not, beq_iff_eq, bne_iff_ne, beq_eq_false_iff_ne, bne_eq_false_iff_eq] at c4')
  refine wp_skip (hK2 _ _ ?_)
  refine wp_seq_k fun K7 hK7 => ?_
  refine wp_seq_k fun K8 hK8 => ?_
  refine wp_region_lit ?_
  refine q_is rfl rfl (does_assign (u := (Iv 0)) (ev rfl)) (by dsimp only [List.set]; try rfl) ?_
  refine wpList_nil (hK8 _ _ ?_)
  refine wp_block ?_
  refine loop_ghost (σ := Nat) (fun k a w' => ∃ u9 : Nat → Value, a = fr [(.slice p_a L_a.length q_a), (.slice p_b L_b.length q_b), Ud, Ud, (u9 4), (Iv (k : Int)), (.slice p_a L_a.length q_a), (Iv (L_a.length : Int)), (.slice p_b L_b.length q_b), (Iv (L_b.length : Int)), (Bo (icmp .neq (L_a.length : Int) (L_b.length : Int))), (u9 11), (u9 12), (u9 13), (u9 14), (u9 15), (u9 16), (u9 17), (u9 18), (u9 19), (u9 20), (u9 21), (u9 22), (u9 23), (u9 24), (u9 25), (u9 26), (u9 27), (u9 28)] ∧ Ext w w' ∧ (k ≤ L_a.length ∧ SameTo L_a L_b k)) (fun k => L_a.length - k) 0 ?_ ?_
  · refine ⟨fun t => (([(.slice p_a L_a.length q_a), (.slice p_b L_b.length q_b), Ud, Ud, (Bo false), (Iv 0), (.slice p_a L_a.length q_a), (Iv (L_a.length : Int)), (.slice p_b L_b.length q_b), (Iv (L_b.length : Int)), (Bo (icmp .neq (L_a.length : Int) (L_b.length : Int))), Ud, Ud, Ud, Ud, Ud, Ud, Ud, Ud, Ud, Ud, Ud, Ud, Ud, Ud, Ud, Ud, Ud, Ud] : List Value)[t]?).getD undef, rfl, Ext.refl _, ?_⟩
    exact ⟨Nat.zero_le _, SameTo.zero⟩
  · rintro k a w10 ⟨u9, rfl, E11, ⟨hk, hs⟩⟩
    have X13 := Ext.gr (Ext.refl w) E11
    refine wp_seq_k fun K14 hK14 => ?_
    refine wp_seq_k fun K15 hK15 => ?_
    refine wp_region_lit ?_
    refine q_is rfl rfl (does_move (u := (Iv (k : Int))) (ev rfl)) (by dsimp only [List.set]; try rfl) ?_
    refine q_is rfl rfl (does_move (u := (.slice p_a L_a.length q_a)) (ev rfl)) (by dsimp only [List.set]; try rfl) ?_
    refine q_is rfl rfl (does_len_slice Try.underlying25 (ev rfl)) (by dsimp only [List.set]; try rfl) ?_
    refine q_is rfl rfl (does_icmp (p := (k : Int)) (q := (L_a.length : Int)) (.inr (.inr (.inl rfl))) (ev rfl) (ev rfl)) (by dsimp only [List.set]; try rfl) ?_
    refine wpList_nil (hK15 _ _ ?_)
    refine wp_cond_split (t := icmp .lss (k : Int) (L_a.length : Int)) (ev rfl) (fun c16 => ?_) (fun c16 => ?_)
    · have c16' := c16
      (try simp only [icmp, Bool.and_eq_true, Bool.or_eq_true, Bool.and_eq_false_iff, Bool.or_eq_false_iff, Bool.not_eq_true', Bool.not_eq_false', decide_eq_true_eq, decide_eq_false_iff_not, beq_iff_eq, bne_iff_ne, beq_eq_false_iff_ne, bne_eq_false_iff_eq] at c16')
      refine wp_skip (hK14 _ _ ?_)
      refine wp_seq_k fun K17 hK17 => ?_
      refine wp_block ?_
      refine wp_seq_k fun K18 hK18 => ?_
      obtain ⟨el1, hel1⟩ : ∃ e, L_a[k]? = some e := ⟨_, List.getElem?_eq_getElem (by omega)⟩
      obtain ⟨el2, hel2⟩ : ∃ e, L_b[k]? = some e := ⟨_, List.getElem?_eq_getElem (by omega)⟩
      obtain ⟨β1, hβ1⟩ : ∃ b : Bool, b = (sameF (fwid el1) (fwid el2)) := ⟨_, rfl⟩
      refine region_draw (
        [Fact.pure [] (fun v => v = (.slice p_a L_a.length q_a)),
    Fact.pure [] (fun v => v = (Iv (k : Int))),
    Fact.mem [17, 18] (fun v w' => PtrR RF w' v el1) (by intro v w1 w2 hx h; exact h.ext RF.mono hx),
    Fact.pure [19] (fun v => ∃ r_1 : Nat, v = (Fl r_1) ∧ cf .f32 r_1 = el1),
    Fact.pure [20] (fun v => ∃ r_1 : Nat, v = (Fd r_1) ∧ cf .f64 r_1 = fwid el1),
    Fact.pure [] (fun v => v = (.slice p_b L_b.length q_b)),
    Fact.pure [] (fun v => v = (Iv (k : Int))),
    Fact.mem [22, 23] (fun v w' => PtrR RF w' v el2) (by intro v w1 w2 hx h; exact h.ext RF.mono hx),
    Fact.pure [24] (fun v => ∃ r_1 : Nat, v = (Fl r_1) ∧ cf .f32 r_1 = el2),
    Fact.pure [25] (fun v => ∃ r_1 : Nat, v = (Fd r_1) ∧ cf .f64 r_1 = fwid el2),
    Fact.pure [21, 26] (fun v => v = (Bo β1)),
    Fact.pure [27] (fun v => v = (Bo (!β1)))]) mixed (by kernel_rfl) (by intro _ _ d _ _ h; cases d <;> exact h) ?_
      obtain ⟨w19, hw21⟩ : ∃ w', w' = World.drew w10 := ⟨_, rfl⟩; rw [← hw21]; have E20 : Ext w10 w19 := by rw [hw21]; exact Ext.draw _
      clear hw21
      have X22 := Ext.gr X13 E20
      refine RW_d _ rfl (fun v => by dsimp only [List.set]; try rfl) (fun u hu hF => ?_) (fun v23 => ?_)
      · clear hF
        refine doesG_un rfl ?_
        refine (does_move (u := (.slice p_a L_a.length q_a)) (ev rfl)).mono ?_; rintro _ _ ⟨rfl, rfl⟩
        exact ⟨rfl, Ext.refl _⟩
      refine RW_d _ rfl (fun v => by dsimp only [List.set]; try rfl) (fun u hu hF => ?_) (fun v24 => ?_)
      · clear hF
        refine doesG_un rfl ?_
        refine (does_move (u := (Iv (k : Int))) (ev rfl)).mono ?_; rintro _ _ ⟨rfl, rfl⟩
        exact ⟨rfl, Ext.refl _⟩
      refine RW_d _ rfl (fun v => by dsimp only [List.set]; try rfl) (fun u hu hF => ?_) (fun v25 => ?_)
      · have h17_ : v23 = (.slice p_a L_a.length q_a) := hF.1
        have h18_ : v24 = (Iv (k : Int)) := hF.2.1
        clear hF
        refine doesG_un rfl ?_
        obtain rfl := h17_
        obtain rfl := h18_
        refine (does_indexSl (R := RF) (i := (k : Int)) (xs := L_a) (e := el1) Try.underlying25 Try.sizeOf22 (ev rfl) (ev rfl) (Sl.ext (Sl.ext hv_a RF.mono (Ext.gr X13 E20)) RF.mono hu) (by omega) hel1).mono ?_; rintro v u' ⟨b, of, cs, hv, hc, hR, hu'⟩; subst hu'
        exact ⟨⟨b, of, cs, hv, hc, hR⟩, Ext.refl _⟩
      refine RW_d _ rfl (fun v => by dsimp only [List.set]; try rfl) (fun u hu hF => ?_) (fun v26 => ?_)
      · have h19_ : PtrR RF u v25 el1 := hF.1
        clear hF
        refine doesG_un rfl ?_
        obtain ⟨b19_, o19_, _, rfl, hc19_, ⟨r19_1, rfl, h19_2⟩⟩ := h19_
        refine (does_load (u := (Fl r19_1)) (ev rfl) Try.isAgg22 (Cells.at hc19_ 0 rfl)).mono ?_; rintro _ _ ⟨rfl, rfl⟩
        exact ⟨⟨r19_1, rfl, (by simp only [h19_2])⟩, Ext.refl _⟩
      refine RW_d _ rfl (fun v => by dsimp only [List.set]; try rfl) (fun u hu hF => ?_) (fun v27 => ?_)
      · have h20_ : ∃ r_1 : Nat, v26 = (Fl r_1) ∧ cf .f32 r_1 = el1 := hF.1
        clear hF
        refine doesG_un rfl ?_
        obtain ⟨r20_1, rfl, h20_2⟩ := h20_
        refine (does_widen Try.underlying22 Try.underlying75 (ev rfl)).mono ?_; rintro _ _ ⟨r, rfl, hr, hx⟩
        exact ⟨⟨r, rfl, (by simp only [hr, h20_2])⟩, hx⟩
      refine RW_d _ rfl (fun v => by dsimp only [List.set]; try rfl) (fun u hu hF => ?_) (fun v28 => ?_)
      · clear hF
        refine doesG_un rfl ?_
        refine (does_move (u := (.slice p_b L_b.length q_b)) (ev rfl)).mono ?_; rintro _ _ ⟨rfl, rfl⟩
        exact ⟨rfl, Ext.refl _⟩
      refine RW_d _ rfl (fun v => by dsimp only [List.set]; try rfl) (fun u hu hF => ?_) (fun v29 => ?_)
      · clear hF
        refine doesG_un rfl ?_
        refine (does_move (u := (Iv (k : Int))) (ev rfl)).mono ?_; rintro _ _ ⟨rfl, rfl⟩
        exact ⟨rfl, Ext.refl _⟩
      refine RW_d _ rfl (fun v => by dsimp only [List.set]; try rfl) (fun u hu hF => ?_) (fun v30 => ?_)
      · have h22_ : v28 = (.slice p_b L_b.length q_b) := hF.1
        have h23_ : v29 = (Iv (k : Int)) := hF.2.1
        clear hF
        refine doesG_un rfl ?_
        obtain rfl := h22_
        obtain rfl := h23_
        refine (does_indexSl (R := RF) (i := (k : Int)) (xs := L_b) (e := el2) Try.underlying25 Try.sizeOf22 (ev rfl) (ev rfl) (Sl.ext (Sl.ext hv_b RF.mono (Ext.gr X13 E20)) RF.mono hu) (by omega) hel2).mono ?_; rintro v u' ⟨b, of, cs, hv, hc, hR, hu'⟩; subst hu'
        exact ⟨⟨b, of, cs, hv, hc, hR⟩, Ext.refl _⟩
      refine RW_d _ rfl (fun v => by dsimp only [List.set]; try rfl) (fun u hu hF => ?_) (fun v31 => ?_)
      · have h24_ : PtrR RF u v30 el2 := hF.1
        clear hF
        refine doesG_un rfl ?_
        obtain ⟨b24_, o24_, _, rfl, hc24_, ⟨r24_1, rfl, h24_2⟩⟩ := h24_
        refine (does_load (u := (Fl r24_1)) (ev rfl) Try.isAgg22 (Cells.at hc24_ 0 rfl)).mono ?_; rintro _ _ ⟨rfl, rfl⟩
        exact ⟨⟨r24_1, rfl, (by simp only [h24_2])⟩, Ext.refl _⟩
      refine RW_d _ rfl (fun v => by dsimp only [List.set]; try rfl) (fun u hu hF => ?_) (fun v32 => ?_)
      · have h25_ : ∃ r_1 : Nat, v31 = (Fl r_1) ∧ cf .f32 r_1 = el2 := hF.1
        clear hF
        refine doesG_un rfl ?_
        obtain ⟨r25_1, rfl, h25_2⟩ := h25_
        refine (does_widen Try.underlying22 Try.underlying75 (ev rfl)).mono ?_; rintro _ _ ⟨r, rfl, hr, hx⟩
        exact ⟨⟨r, rfl, (by simp only [hr, h25_2])⟩, hx⟩
      refine RW_d _ rfl (fun v => by dsimp only [List.set]; try rfl) (fun u hu hF => ?_) (fun v33 => ?_)
      · have h21_ : ∃ r_1 : Nat, v27 = (Fd r_1) ∧ cf .f64 r_1 = fwid el1 := hF.1
        have h26_ : ∃ r_1 : Nat, v32 = (Fd r_1) ∧ cf .f64 r_1 = fwid el2 := hF.2.1
        clear hF
        refine doesG_un rfl ?_
        obtain ⟨r21_1, rfl, h21_2⟩ := h21_
        obtain ⟨r26_1, rfl, h26_2⟩ := h26_
        refine (does_call (args := #[(Fd r21_1), (Fd r26_1)]) cal40 (evs rfl) (c_laws_sameFloat r21_1 r26_1 _)).mono ?_; rintro v u' ⟨hx, hv⟩
        exact ⟨hv.trans (by simp only [hβ1, h21_2, h26_2]), hx⟩
      refine RW_d _ rfl (fun v => by dsimp only [List.set]; try rfl) (fun u hu hF => ?_) (fun v34 => ?_)
      · have h27_ : v33 = (Bo β1) := hF.1
        clear hF
        refine doesG_un rfl ?_
        obtain rfl := h27_
        refine (does_not (ev rfl)).mono ?_; rintro _ _ ⟨rfl, rfl⟩
        exact ⟨rfl, Ext.refl _⟩
      refine RW_fin ?_; intro w35 E36 hP37
      obtain ⟨⟨⟨⟨⟨⟨⟨⟨⟨⟨⟨⟨-, -⟩, -⟩, -⟩, -⟩, -⟩, -⟩, -⟩, -⟩, -⟩, -⟩, -⟩, q38⟩ := hP37
      have X39 := Ext.gr X22 E36
      have q38 : v34 = (Bo (!β1)) := q38
      obtain rfl := q38
      show wpList _ _ _ _ (fr [_, _, _, _, _, _, _, _, _, _, _, _, _, _, _, _, _, _, _, _, _, _, _, _, _, _, _, _, _]) _
      refine wpList_nil (hK18 _ _ ?_)
      refine wp_cond_split (t := !β1) (ev rfl) (fun c40 => ?_) (fun c40 => ?_)
      · rw [Bool.not_eq_true'] at c40
        have c40' := c40
        (try simp only [hβ1] at c40')
        (try simp only [icmp, Bool.and_eq_true, Bool.or_eq_true, Bool.and_eq_false_iff, Bool.or_eq_false_iff, Bool.not_eq_true', Bool.not_eq_false', decide_eq_true_eq, decide_eq_false_iff_not, beq_iff_eq, bne_iff_ne, beq_eq_false_iff_ne, bne_eq_false_iff_eq] at c40')
        refine wp_seq_k fun K41 hK41 => ?_
        refine wp_region_lit ?_
        refine q_is rfl rfl (does_assign (u := (Bo false)) (ev rfl)) (by dsimp only [List.set]; try rfl) ?_
        refine wpList_nil (hK41 _ _ ?_)
        refine wp_ret ?_
        dsimp only [Exit.then, Exit.inBlock]
        refine ret_val (v := (Bo false)) (res_T rfl (slot rfl)) X39 ?_
        try simp only [hβ1, hel1, hel2] at c4 c16 c40
        have x42 : (sameL L_a L_b) = false := by first | exact (sameL_len (by omega)) | exact (sameL_not (by omega) (by assumption) (by assumption) (by simp_all)) | exact (sameL_all (by omega) (by omega) hs)
        exact (by first | with_reducible rfl | rw [x42] | rfl)
      rw [Bool.not_eq_false'] at c40
      have c40' := c40
      (try simp only [hβ1] at c40')
      (try simp only [icmp, Bool.and_eq_true, Bool.or_eq_true, Bool.and_eq_false_iff, Bool.or_eq_false_iff, Bool.not_eq_true', Bool.not_eq_false', decide_eq_true_eq, decide_eq_false_iff_not, beq_iff_eq, bne_iff_ne, beq_eq_false_iff_ne, bne_eq_false_iff_eq] at c40')
      refine wp_skip (hK17 _ _ ?_)
      refine wp_region_lit ?_
      refine q_is rfl rfl (does_move (u := (Iv (k : Int))) (ev rfl)) (by dsimp only [List.set]; try rfl) ?_
      refine q_is rfl rfl (does_iarith (p := (k : Int)) (q := 1) (r := (k : Int) + 1) (ev rfl) (ev rfl) (.inl ⟨rfl, (in_i64 (by omega) (by omega)).symm⟩)) (by dsimp only [List.set]; try rfl) ?_
      refine q_is rfl rfl (does_assign (u := (Iv ((k : Int) + 1))) (ev rfl)) (by dsimp only [List.set]; try rfl) ?_
      refine wpList_nil ?_
      refine ⟨k + 1, ⟨fun t => (([(.slice p_a L_a.length q_a), (.slice p_b L_b.length q_b), Ud, Ud, (u9 4), (Iv ((k : Int) + 1)), (.slice p_a L_a.length q_a), (Iv (L_a.length : Int)), (.slice p_b L_b.length q_b), (Iv (L_b.length : Int)), (Bo (icmp .neq (L_a.length : Int) (L_b.length : Int))), (Iv (k : Int)), (.slice p_a L_a.length q_a), (Iv (L_a.length : Int)), (Bo (icmp .lss (k : Int) (L_a.length : Int))), (Iv (k : Int)), (Iv ((k : Int) + 1)), v23, v24, v25, v26, v27, v28, v29, v30, v31, v32, v33, (Bo (!β1))] : List Value)[t]?).getD undef, ?_, (Ext.gr (Ext.gr E11 E20) E36), ?_⟩, ?_⟩
      · first | rfl | (simp only [Nat.cast_add, Nat.cast_one, Int.natCast_add, Int.natCast_one]; rfl)
      · exact ⟨by omega, SameTo.step hs (by assumption) (by assumption) (by simp_all)⟩
      · omega
    have c16' := c16
    (try simp only [icmp, Bool.and_eq_true, Bool.or_eq_true, Bool.and_eq_false_iff, Bool.or_eq_false_iff, Bool.not_eq_true', Bool.not_eq_false', decide_eq_true_eq, decide_eq_false_iff_not, beq_iff_eq, bne_iff_ne, beq_eq_false_iff_ne, bne_eq_false_iff_eq] at c16')
    refine wp_exit ?_
    refine hK7 _ _ ?_
    refine wp_seq_k fun K43 hK43 => ?_
    refine wp_region_lit ?_
    refine q_is rfl rfl (does_assign (u := (Bo true)) (ev rfl)) (by dsimp only [List.set]; try rfl) ?_
    refine wpList_nil (hK43 _ _ ?_)
    refine wp_ret ?_
    refine ret_val (v := (Bo true)) (res_T rfl (slot rfl)) X13 ?_
    have x44 : (sameL L_a L_b) = true := by first | exact (sameL_len (by omega)) | exact (sameL_not (by omega) (by assumption) (by assumption) (by simp_all)) | exact (sameL_all (by omega) (by omega) hs)
    exact (by first | with_reducible rfl | rw [x44] | rfl)

theorem c_laws_markVectorS_nil (k : Int) (w : World) : Gives Try.prog 28 #[.slice none 0 0, Iv k] w (fun v _ => v = Iv k) := by
  refine enter [(.slice none 0 0), (Iv k), Ud, Ud, Ud, Ud, Ud, Ud, Ud, Ud, Ud, Ud, Ud, Ud, Ud, Ud, Ud, Ud, Ud, Ud, Ud, Ud, Ud, Ud, Ud, Ud, Ud, Ud, Ud, Ud, Ud, Ud, Ud, Ud, Ud, Ud, Ud] Try.func28 rfl Try.ntmps28 rfl ?_
  refine wp_seq_k fun K1 hK1 => ?_
  refine wp_region_lit ?_
  refine q_is rfl rfl (does_assign (u := (Iv 0)) (ev rfl)) (by dsimp only [List.set]; try rfl) ?_
  refine wpList_nil (hK1 _ _ ?_)
  refine wp_seq_k fun K2 hK2 => ?_
  refine wp_seq_k fun K3 hK3 => ?_
  refine wp_region_lit ?_
  refine q_is rfl rfl (does_assign (u := (Iv 0)) (ev rfl)) (by dsimp only [List.set]; try rfl) ?_
  refine wpList_nil (hK3 _ _ ?_)
  refine wp_block ?_
  refine loop_unroll 1 ?_
  refine un_step ?_
  refine wp_seq_k fun K4 hK4 => ?_
  refine wp_seq_k fun K5 hK5 => ?_
  refine wp_region_lit ?_
  refine q_is rfl rfl (does_move (u := (Iv 0)) (ev rfl)) (by dsimp only [List.set]; try rfl) ?_
  refine q_is rfl rfl (does_move (u := (.slice none 0 0)) (ev rfl)) (by dsimp only [List.set]; try rfl) ?_
  refine q_is rfl rfl (does_len_slice Try.underlying47 (ev rfl)) (by dsimp only [List.set]; try rfl) ?_
  refine q_is rfl rfl (does_icmp (p := 0) (q := 0) (.inr (.inr (.inl rfl))) (ev rfl) (ev rfl)) (by dsimp only [List.set]; try rfl) ?_
  refine wpList_nil (hK5 _ _ ?_)
  refine wp_cond_false (ev rfl) ?_
  refine wp_exit ?_
  refine hK2 _ _ ?_
  refine wp_seq_k fun K6 hK6 => ?_
  refine wp_region_lit ?_
  refine q_is rfl rfl (does_move (u := (Iv k)) (ev rfl)) (by dsimp only [List.set]; try rfl) ?_
  refine q_is rfl rfl (does_assign (u := (Iv k)) (ev rfl)) (by dsimp only [List.set]; try rfl) ?_
  refine wpList_nil (hK6 _ _ ?_)
  refine wp_ret ?_
  refine ret_val (v := (Iv k)) (res_T rfl (slot rfl)) (Ext.refl w) ?_
  have x7 : (k : Int) = k := by first | with_reducible rfl | (simp only []; done) | (simp []; done) | rfl
  exact (by first | with_reducible rfl | rw [x7] | rfl)

theorem c_laws_markVectorS_blk (g N n cap : Nat) (k : Int) (w : World) (hM : Mk true k w g N 0) (hn : n * 3 ≤ N) (h0 : 0 ≤ k) (h1 : k + (n : Int) * 3 ≤ 4611686018427387904) : GivesK [g] Try.prog 28 #[.slice (some ⟨g, 0, none⟩) n cap, Iv k] w (fun v w' => v = Iv (k + (n : Int) * 3) ∧ Mk true k w' g N (n * 3)) := by
  refine enterK [(.slice (some ⟨g, 0, none⟩) n cap), (Iv k), Ud, Ud, Ud, Ud, Ud, Ud, Ud, Ud, Ud, Ud, Ud, Ud, Ud, Ud, Ud, Ud, Ud, Ud, Ud, Ud, Ud, Ud, Ud, Ud, Ud, Ud, Ud, Ud, Ud, Ud, Ud, Ud, Ud, Ud, Ud] Try.func28 rfl Try.ntmps28 rfl ?_
  refine wp_seq_k fun K1 hK1 => ?_
  refine wp_region_lit ?_
  refine q_is rfl rfl (does_assign (u := (Iv 0)) (ev rfl)) (by dsimp only [List.set]; try rfl) ?_
  refine wpList_nil (hK1 _ _ ?_)
  refine wp_seq_k fun K2 hK2 => ?_
  refine wp_seq_k fun K3 hK3 => ?_
  refine wp_region_lit ?_
  refine q_is rfl rfl (does_assign (u := (Iv 0)) (ev rfl)) (by dsimp only [List.set]; try rfl) ?_
  refine wpList_nil (hK3 _ _ ?_)
  refine wp_block ?_
  refine loop_ghost (σ := Nat × Int) (fun s a w' => ∃ u4 : Nat → Value, a = fr [(.slice (some ⟨g, 0, none⟩) n cap), (Iv s.2), Ud, Ud, (Iv 0), (Iv (s.1 : Int)), (u4 6), (u4 7), (u4 8), (u4 9), (u4 10), (u4 11), (u4 12), (u4 13), (u4 14), (u4 15), (u4 16), (u4 17), (u4 18), (u4 19), (u4 20), (u4 21), (u4 22), (u4 23), (u4 24), (u4 25), (u4 26), (u4 27), (u4 28), (u4 29), (u4 30), (u4 31), (u4 32), (u4 33), (u4 34), (u4 35), Ud] ∧ KpL [g] w w' ∧ Mk true k w' g N (s.1 * 3) ∧ (s.1 ≤ n ∧ s.2 = k + (s.1 : Int) * 3)) (fun s => n - s.1) (0, k) ?_ ?_
  · refine ⟨fun t => (([(.slice (some ⟨g, 0, none⟩) n cap), (Iv k), Ud, Ud, (Iv 0), (Iv 0), Ud, Ud, Ud, Ud, Ud, Ud, Ud, Ud, Ud, Ud, Ud, Ud, Ud, Ud, Ud, Ud, Ud, Ud, Ud, Ud, Ud, Ud, Ud, Ud, Ud, Ud, Ud, Ud, Ud, Ud, Ud] : List Value)[t]?).getD undef, rfl, KpL.refl _ _, (Mk.cast hM (by simp)), ?_⟩
    exact ⟨Nat.zero_le _, by simp⟩
  · rintro s a w5 ⟨u4, rfl, E6, hF7, ⟨hk, hn2⟩⟩
    have X8 := KpL.more (KpL.refl [g] w) E6 (allS (.inl (by simp)) all0)
    refine wp_seq_k fun K9 hK9 => ?_
    refine wp_seq_k fun K10 hK10 => ?_
    refine wp_region_lit ?_
    refine q_is rfl rfl (does_move (u := (Iv (s.1 : Int))) (ev rfl)) (by dsimp only [List.set]; try rfl) ?_
    refine q_is rfl rfl (does_move (u := (.slice (some ⟨g, 0, none⟩) n cap)) (ev rfl)) (by dsimp only [List.set]; try rfl) ?_
    refine q_is rfl rfl (does_len_slice Try.underlying47 (ev rfl)) (by dsimp only [List.set]; try rfl) ?_
    refine q_is rfl rfl (does_icmp (p := (s.1 : Int)) (q := (n : Int)) (.inr (.inr (.inl rfl))) (ev rfl) (ev rfl)) (by dsimp only [List.set]; try rfl) ?_
    refine wpList_nil (hK10 _ _ ?_)
    refine wp_cond_split (t := icmp .lss (s.1 : Int) (n : Int)) (ev rfl) (fun c11 => ?_) (fun c11 => ?_)
    · have c11' := c11
      (try simp only [icmp, Bool.and_eq_true, Bool.or_eq_true, Bool.and_eq_false_iff, Bool.or_eq_false_iff, Bool.not_eq_true', Bool.not_eq_false', decide_eq_true_eq, decide_eq_false_iff_not, beq_iff_eq, bne_iff_ne, beq_eq_false_iff_ne, bne_eq_false_iff_eq] at c11')
      refine wp_skip (hK9 _ _ ?_)
      refine wp_seq_k fun K12 hK12 => ?_
      refine wp_block ?_
      refine wp_seq_k fun K13 hK13 => ?_
      refine wp_region_lit ?_
      refine q_is rfl rfl (does_move (u := (.slice (some ⟨g, 0, none⟩) n cap)) (ev rfl)) (by dsimp only [List.set]; try rfl) ?_
      refine q_is rfl rfl (does_move (u := (Iv (s.1 : Int))) (ev rfl)) (by dsimp only [List.set]; try rfl) ?_
      refine q_is rfl rfl (does_move (u := (Iv s.2)) (ev rfl)) (by dsimp only [List.set]; try rfl) ?_
      refine q_is rfl rfl (does_conv_if (k := .f32) Try.underlying3 Try.underlying22 (ev rfl)) (by dsimp only [List.set]; try rfl) ?_
      refine q_is rfl rfl (does_indexOwn (b := g) (n := n) (i := (s.1 : Int)) Try.underlying47 Try.sizeOf32 (ev rfl) (ev rfl) (by omega) (by omega)) (by dsimp only [List.set]; try rfl) ?_
      refine q_is rfl rfl (does_fieldAddr (ev rfl) fa32_0) (by dsimp only [List.set]; try rfl) ?_
      refine seqn rfl rfl (does_mark (fl := true) (k := k) (N := N) (off := s.1 * 3) (j := s.1 * 3) (u := (Fl (FloatKind.f32.nearest s.2))) (ev rfl) (ev rfl) Try.sizeOf22 (mkc_f (by first | rfl | omega)) (by omega) (by omega) hF7) ?_; rintro _ w16 ⟨rfl, W14, hM15⟩
      have X17 := KpL.more X8 (KpL.of_wr W14) (allS (.inl (by simp)) all0)
      refine wpList_nil (hK13 _ _ ?_)
      refine wp_seq_k fun K18 hK18 => ?_
      refine wp_region_lit ?_
      refine q_is rfl rfl (does_move (u := (Iv s.2)) (ev rfl)) (by dsimp only [List.set]; try rfl) ?_
      refine q_is rfl rfl (does_iarith (p := s.2) (q := 1) (r := s.2 + 1) (ev rfl) (ev rfl) (.inl ⟨rfl, (in_i64 (by omega) (by omega)).symm⟩)) (by dsimp only [List.set]; try rfl) ?_
      refine q_is rfl rfl (does_assign (u := (Iv (s.2 + 1))) (ev rfl)) (by dsimp only [List.set]; try rfl) ?_
      refine wpList_nil (hK18 _ _ ?_)
      refine wp_seq_k fun K19 hK19 => ?_
      refine wp_region_lit ?_
      refine q_is rfl rfl (does_move (u := (.slice (some ⟨g, 0, none⟩) n cap)) (ev rfl)) (by dsimp only [List.set]; try rfl) ?_
      refine q_is rfl rfl (does_move (u := (Iv (s.1 : Int))) (ev rfl)) (by dsimp only [List.set]; try rfl) ?_
      refine q_is rfl rfl (does_move (u := (Iv (s.2 + 1))) (ev rfl)) (by dsimp only [List.set]; try rfl) ?_
      refine q_is rfl rfl (does_conv_if (k := .f32) Try.underlying3 Try.underlying22 (ev rfl)) (by dsimp only [List.set]; try rfl) ?_
      refine q_is rfl rfl (does_indexOwn (b := g) (n := n) (i := (s.1 : Int)) Try.underlying47 Try.sizeOf32 (ev rfl) (ev rfl) (by omega) (by omega)) (by dsimp only [List.set]; try rfl) ?_
      refine q_is rfl rfl (does_fieldAddr (ev rfl) fa32_1) (by dsimp only [List.set]; try rfl) ?_
      refine seqn rfl rfl (does_mark (fl := true) (k := k) (N := N) (off := s.1 * 3 + 1) (j := s.1 * 3 + 1) (u := (Fl (FloatKind.f32.nearest (s.2 + 1)))) (ev rfl) (ev rfl) Try.sizeOf22 (mkc_f (by first | rfl | omega)) (by omega) (by omega) hM15) ?_; rintro _ w22 ⟨rfl, W20, hM21⟩
      have X23 := KpL.more X17 (KpL.of_wr W20) (allS (.inl (by simp)) all0)
      refine wpList_nil (hK19 _ _ ?_)
      refine wp_seq_k fun K24 hK24 => ?_
      refine wp_region_lit ?_
      refine q_is rfl rfl (does_move (u := (Iv (s.2 + 1))) (ev rfl)) (by dsimp only [List.set]; try rfl) ?_
      refine q_is rfl rfl (does_iarith (p := s.2 + 1) (q := 1) (r := (s.2 + 1) + 1) (ev rfl) (ev rfl) (.inl ⟨rfl, (in_i64 (by omega) (by omega)).symm⟩)) (by dsimp only [List.set]; try rfl) ?_
      refine q_is rfl rfl (does_assign (u := (Iv ((s.2 + 1) + 1))) (ev rfl)) (by dsimp only [List.set]; try rfl) ?_
      refine wpList_nil (hK24 _ _ ?_)
      refine wp_seq_k fun K25 hK25 => ?_
      refine wp_region_lit ?_
      refine q_is rfl rfl (does_move (u := (.slice (some ⟨g, 0, none⟩) n cap)) (ev rfl)) (by dsimp only [List.set]; try rfl) ?_
      refine q_is rfl rfl (does_move (u := (Iv (s.1 : Int))) (ev rfl)) (by dsimp only [List.set]; try rfl) ?_
      refine q_is rfl rfl (does_move (u := (Iv ((s.2 + 1) + 1))) (ev rfl)) (by dsimp only [List.set]; try rfl) ?_
      refine q_is rfl rfl (does_conv_if (k := .f32) Try.underlying3 Try.underlying22 (ev rfl)) (by dsimp only [List.set]; try rfl) ?_
      refine q_is rfl rfl (does_indexOwn (b := g) (n := n) (i := (s.1 : Int)) Try.underlying47 Try.sizeOf32 (ev rfl) (ev rfl) (by omega) (by omega)) (by dsimp only [List.set]; try rfl) ?_
      refine q_is rfl rfl (does_fieldAddr (ev rfl) fa32_2) (by dsimp only [List.set]; try rfl) ?_
      refine seqn rfl rfl (does_mark (fl := true) (k := k) (N := N) (off := s.1 * 3 + 2) (j := s.1 * 3 + 1 + 1) (u := (Fl (FloatKind.f32.nearest ((s.2 + 1) + 1)))) (ev rfl) (ev rfl) Try.sizeOf22 (mkc_f (by first | rfl | omega)) (by omega) (by omega) hM21) ?_; rintro _ w28 ⟨rfl, W26, hM27⟩
      have X29 := KpL.more X23 (KpL.of_wr W26) (allS (.inl (by simp)) all0)
      refine wpList_nil (hK25 _ _ ?_)
      refine wp_region_lit ?_
      refine q_is rfl rfl (does_move (u := (Iv ((s.2 + 1) + 1))) (ev rfl)) (by dsimp only [List.set]; try rfl) ?_
      refine q_is rfl rfl (does_iarith (p := (s.2 + 1) + 1) (q := 1) (r := ((s.2 + 1) + 1) + 1) (ev rfl) (ev rfl) (.inl ⟨rfl, (in_i64 (by omega) (by omega)).symm⟩)) (by dsimp only [List.set]; try rfl) ?_
      refine q_is rfl rfl (does_assign (u := (Iv (((s.2 + 1) + 1) + 1))) (ev rfl)) (by dsimp only [List.set]; try rfl) ?_
      refine wpList_nil (hK12 _ _ ?_)
      refine wp_region_lit ?_
      refine q_is rfl rfl (does_move (u := (Iv (s.1 : Int))) (ev rfl)) (by dsimp only [List.set]; try rfl) ?_
      refine q_is rfl rfl (does_iarith (p := (s.1 : Int)) (q := 1) (r := (s.1 : Int) + 1) (ev rfl) (ev rfl) (.inl ⟨rfl, (in_i64 (by omega) (by omega)).symm⟩)) (by dsimp only [List.set]; try rfl) ?_
      refine q_is rfl rfl (does_assign (u := (Iv ((s.1 : Int) + 1))) (ev rfl)) (by dsimp only [List.set]; try rfl) ?_
      refine wpList_nil ?_
      refine ⟨(s.1 + 1, ((s.2 + 1) + 1) + 1), ⟨fun t => (([(.slice (some ⟨g, 0, none⟩) n cap), (Iv (((s.2 + 1) + 1) + 1)), Ud, Ud, (Iv 0), (Iv ((s.1 : Int) + 1)), (Iv (s.1 : Int)), (.slice (some ⟨g, 0, none⟩) n cap), (Iv (n : Int)), (Bo (icmp .lss (s.1 : Int) (n : Int))), (Iv (s.1 : Int)), (Iv ((s.1 : Int) + 1)), (.slice (some ⟨g, 0, none⟩) n cap), (Iv (s.1 : Int)), (Iv s.2), (Fl (FloatKind.f32.nearest s.2)), (Pt g (s.1 * 3)), (Pt g (s.1 * 3)), (Iv s.2), (Iv (s.2 + 1)), (.slice (some ⟨g, 0, none⟩) n cap), (Iv (s.1 : Int)), (Iv (s.2 + 1)), (Fl (FloatKind.f32.nearest (s.2 + 1))), (Pt g (s.1 * 3)), (Pt g (s.1 * 3 + 1)), (Iv (s.2 + 1)), (Iv ((s.2 + 1) + 1)), (.slice (some ⟨g, 0, none⟩) n cap), (Iv (s.1 : Int)), (Iv ((s.2 + 1) + 1)), (Fl (FloatKind.f32.nearest ((s.2 + 1) + 1))), (Pt g (s.1 * 3)), (Pt g (s.1 * 3 + 2)), (Iv ((s.2 + 1) + 1)), (Iv (((s.2 + 1) + 1) + 1)), Ud] : List Value)[t]?).getD undef, ?_, (KpL.more (KpL.more (KpL.more E6 (KpL.of_wr W14) (allS (.inl (by simp)) all0)) (KpL.of_wr W20) (allS (.inl (by simp)) all0)) (KpL.of_wr W26) (allS (.inl (by simp)) all0)), (Mk.cast hM27 (by (try dsimp only); omega)), ?_⟩, ?_⟩
      · first | rfl | (simp only [Nat.cast_add, Nat.cast_one, Int.natCast_add, Int.natCast_one]; rfl)
      · (try dsimp only); exact ⟨by omega, by omega⟩
      · (try dsimp only); omega
    have c11' := c11
    (try simp only [icmp, Bool.and_eq_true, Bool.or_eq_true, Bool.and_eq_false_iff, Bool.or_eq_false_iff, Bool.not_eq_true', Bool.not_eq_false', decide_eq_true_eq, decide_eq_false_iff_not, beq_iff_eq, bne_iff_ne, beq_eq_false_iff_ne, bne_eq_false_iff_eq] at c11')
    refine wp_exit ?_
    refine hK2 _ _ ?_
    refine wp_seq_k fun K30 hK30 => ?_
    refine wp_region_lit ?_
    refine q_is rfl rfl (does_move (u := (Iv s.2)) (ev rfl)) (by dsimp only [List.set]; try rfl) ?_
    refine q_is rfl rfl (does_assign (u := (Iv s.2)) (ev rfl)) (by dsimp only [List.set]; try rfl) ?_
    refine wpList_nil (hK30 _ _ ?_)
    refine wp_ret ?_
    refine ret_valK (v := (Iv s.2)) (res_T rfl (slot rfl)) X8 ?_
    have hj : s.1 = n := by omega
    exact ⟨by first | rfl | (show Value.int _ _ = Value.int _ _; congr 1; omega), Mk.cast hF7 (by rw [hj])⟩

theorem c_laws_markVectorS (a : Value) (n : Nat) (L : List Nat) (B : Nat) (k : Int) (w : World) (ha : WL 3 B w L a n) (h0 : 0 ≤ k) (h1 : k + (n : Int) * 3 ≤ 4611686018427387904) : GivesK L Try.prog 28 #[a, Iv k] w (fun v w' => v = Iv (k + (n : Int) * 3) ∧ Hang B w' (fun u => Sl RV3 3 u a (mkL fV 3 k n))) := by
  obtain ⟨hL, ⟨rfl, rfl, rfl⟩ | ⟨g, cap, cs, rfl, rfl, hB, hn, hc⟩⟩ := ha
  · exact (Gives.toK (c_laws_markVectorS_nil k w)).mono fun v w' hv => ⟨by rw [hv]; simp, fun u _ => Sl_mk0 u⟩
  · exact (c_laws_markVectorS_blk g cs.length n cap k w (Mk.zero hB rfl) hn h0 h1).mono fun v w' ⟨hv, hM⟩ => ⟨hv, Mk.hang hM (hL g (by simp)).1 hc (by decide) (by omega) rV⟩

theorem c_laws_markFloat32S_nil (k : Int) (w : World) : Gives Try.prog 29 #[.slice none 0 0, Iv k] w (fun v _ => v = Iv k) := by
  refine enter [(.slice none 0 0), (Iv k), Ud, Ud, Ud, Ud, Ud, Ud, Ud, Ud, Ud, Ud, Ud, Ud, Ud, Ud, Ud, Ud, Ud, Ud] Try.func29 rfl Try.ntmps29 rfl ?_
  refine wp_seq_k fun K1 hK1 => ?_
  refine wp_region_lit ?_
  refine q_is (l' := [(.slice none 0 0), (Iv k), Ud, Ud, (Iv 0), Ud, Ud, Ud, Ud, Ud, Ud, Ud, Ud, Ud, Ud, Ud, Ud, Ud, Ud, Ud]) rfl rfl (does_assign (u := (Iv 0)) (ev rfl)) rfl ?_
  refine wpList_nil (hK1 _ _ ?_)
  refine wp_seq_k fun K2 hK2 => ?_
  refine wp_seq_k fun K3 hK3 => ?_
  refine wp_region_lit ?_
  refine q_is (l' := [(.slice none 0 0), (Iv k), Ud, Ud, (Iv 0), (Iv 0), Ud, Ud, Ud, Ud, Ud, Ud, Ud, Ud, Ud, Ud, Ud, Ud, Ud, Ud]) rfl rfl (does_assign (u := (Iv 0)) (ev rfl)) rfl ?_
  refine wpList_nil (hK3 _ _ ?_)
  refine wp_block ?_
  refine loop_unroll 1 ?_
  refine un_step ?_
  refine wp_seq_k fun K4 hK4 => ?_
  refine wp_seq_k fun K5 hK5 => ?_
  refine wp_region_lit ?_
  refine q_is (l' := [(.slice none 0 0), (Iv k), Ud, Ud, (Iv 0), (Iv 0), (Iv 0), Ud, Ud, Ud, Ud, Ud, Ud, Ud, Ud, Ud, Ud, Ud, Ud, Ud]) rfl rfl (does_move (u := (Iv 0)) (ev rfl)) rfl ?_
  refine q_is (l' := [(.slice none 0 0), (Iv k), Ud, Ud, (Iv 0), (Iv 0), (Iv 0), (.slice none 0 0), Ud, Ud, Ud, Ud, Ud, Ud, Ud, Ud, Ud, Ud, Ud, Ud]) rfl rfl (does_move (u := (.slice none 0 0)) (ev rfl)) rfl ?_
  refine q_is (l' := [(.slice none 0 0), (Iv k), Ud, Ud, (Iv 0), (Iv 0), (Iv 0), (.slice none 0 0), (Iv 0), Ud, Ud, Ud, Ud, Ud, Ud, Ud, Ud, Ud, Ud, Ud]) rfl rfl (does_len_slice Try.underlying25 (ev rfl)) rfl ?_
  refine q_is (l' := [(.slice none 0 0), (Iv k), Ud, Ud, (Iv 0), (Iv 0), (Iv 0), (.slice none 0 0), (Iv 0), (Bo false), Ud, Ud, Ud, Ud, Ud, Ud, Ud, Ud, Ud, Ud]) rfl rfl (does_icmp (p := 0) (q := 0) (.inr (.inr (.inl rfl))) (ev rfl) (ev rfl)) rfl ?_
  refine wpList_nil (hK5 _ _ ?_)
  refine wp_cond_false (ev rfl) ?_
  refine wp_exit ?_
  refine hK2 _ _ ?_
  refine wp_seq_k fun K6 hK6 => ?_
  refine wp_region_lit ?_
  refine q_is (l' := [(.slice none 0 0), (Iv k), Ud, Ud, (Iv 0), (Iv 0), (Iv 0), (.slice none 0 0), (Iv 0), (Bo false), Ud, Ud, Ud, Ud, Ud, Ud, Ud, Ud, Ud, (Iv k)]) rfl rfl (does_move (u := (Iv k)) (ev rfl)) rfl ?_
  refine q_is (l' := [(.slice none 0 0), (Iv k), Ud, Ud, (Iv k), (Iv 0), (Iv 0), (.slice none 0 0), (Iv 0), (Bo false), Ud, Ud, Ud, Ud, Ud, Ud, Ud, Ud, Ud, (Iv k)]) rfl rfl (does_assign (u := (Iv k)) (ev rfl)) rfl ?_
  refine wpList_nil (hK6 _ _ ?_)
  refine wp_ret ?_
  refine ret_val (v := (Iv k)) (res_T rfl (slot rfl)) (Ext.refl w) ?_
  have x7 : (k : Int) = k := by first | with_reducible rfl | (simp only []; done) | (simp []; done) | rfl
  exact (by first | with_reducible rfl | rw [x7] | rfl)

theorem c_laws_markFloat32S_blk (g N n cap : Nat) (k : Int) (w : World) (hM : Mk true k w g N 0) (hn : n * 1 ≤ N) (h0 : 0 ≤ k) (h1 : k + (n : Int) * 1 ≤ 4611686018427387904) : GivesK [g] Try.prog 29 #[.slice (some ⟨g, 0, none⟩) n cap, Iv k] w (fun v w' => v = Iv (k + (n : Int) * 1) ∧ Mk true k w' g N (n * 1)) := by
  refine enterK [(.slice (some ⟨g, 0, none⟩) n cap), (Iv k), Ud, Ud, Ud, Ud, Ud, Ud, Ud, Ud, Ud, Ud, Ud, Ud, Ud, Ud, Ud, Ud, Ud, Ud] Try.func29 rfl Try.ntmps29 rfl ?_
  refine wp_seq_k fun K1 hK1 => ?_
  refine wp_region_lit ?_
  refine q_is (l' := [(.slice (some ⟨g, 0, none⟩) n cap), (Iv k), Ud, Ud, (Iv 0), Ud, Ud, Ud, Ud, Ud, Ud, Ud, Ud, Ud, Ud, Ud, Ud, Ud, Ud, Ud]) rfl rfl (does_assign (u := (Iv 0)) (ev rfl)) rfl ?_
  refine wpList_nil (hK1 _ _ ?_)
  refine wp_seq_k fun K2 hK2 => ?_
  refine wp_seq_k fun K3 hK3 => ?_
  refine wp_region_lit ?_
  refine q_is (l' := [(.slice (some ⟨g, 0, none⟩) n cap), (Iv k), Ud, Ud, (Iv 0), (Iv 0), Ud, Ud, Ud, Ud, Ud, Ud, Ud, Ud, Ud, Ud, Ud, Ud, Ud, Ud]) rfl rfl (does_assign (u := (Iv 0)) (ev rfl)) rfl ?_
  refine wpList_nil (hK3 _ _ ?_)
  refine wp_block ?_
  refine loop_ghost (σ := Nat × Int) (fun s a w' => ∃ u4 : Nat → Value, a = fr [(.slice (some ⟨g, 0, none⟩) n cap), (Iv s.2), Ud, Ud, (Iv 0), (Iv (s.1 : Int)), (u4 6), (u4 7), (u4 8), (u4 9), (u4 10), (u4 11), (u4 12), (u4 13), (u4 14), (u4 15), (u4 16), (u4 17), (u4 18), Ud] ∧ KpL [g] w w' ∧ Mk true k w' g N (s.1 * 1) ∧ (s.1 ≤ n ∧ s.2 = k + (s.1 : Int) * 1)) (fun s => n - s.1) (0, k) ?_ ?_
  · refine ⟨fun t => (([(.slice (some ⟨g, 0, none⟩) n cap), (Iv k), Ud, Ud, (Iv 0), (Iv 0), Ud, Ud, Ud, Ud, Ud, Ud, Ud, Ud, Ud, Ud, Ud, Ud, Ud, Ud] : List Value)[t]?).getD undef, rfl, KpL.refl _ _, (Mk.cast hM (by simp)), ?_⟩
    exact ⟨Nat.zero_le _, by simp⟩
  · rintro s a w5 ⟨u4, rfl, E6, hF7, ⟨hk, hn2⟩⟩
    have X8 := KpL.more (KpL.refl [g] w) E6 (allS (.inl (by simp)) all0)
    refine wp_seq_k fun K9 hK9 => ?_
    refine wp_seq_k fun K10 hK10 => ?_
    refine wp_region_lit ?_
    refine q_is (l' := [(.slice (some ⟨g, 0, none⟩) n cap), (Iv s.2), Ud, Ud, (Iv 0), (Iv (s.1 : Int)), (Iv (s.1 : Int)), (u4 7), (u4 8), (u4 9), (u4 10), (u4 11), (u4 12), (u4 13), (u4 14), (u4 15), (u4 16), (u4 17), (u4 18), Ud]) rfl rfl (does_move (u := (Iv (s.1 : Int))) (ev rfl)) rfl ?_
    refine q_is (l' := [(.slice (some ⟨g, 0, none⟩) n cap), (Iv s.2), Ud, Ud, (Iv 0), (Iv (s.1 : Int)), (Iv (s.1 : Int)), (.slice (some ⟨g, 0, none⟩) n cap), (u4 8), (u4 9), (u4 10), (u4 11), (u4 12), (u4 13), (u4 14), (u4 15), (u4 16), (u4 17), (u4 18), Ud]) rfl rfl (does_move (u := (.slice (some ⟨g, 0, none⟩) n cap)) (ev rfl)) rfl ?_
    refine q_is (l' := [(.slice (some ⟨g, 0, none⟩) n cap), (Iv s.2), Ud, Ud, (Iv 0), (Iv (s.1 : Int)), (Iv (s.1 : Int)), (.slice (some ⟨g, 0, none⟩) n cap), (Iv (n : Int)), (u4 9), (u4 10), (u4 11), (u4 12), (u4 13), (u4 14), (u4 15), (u4 16), (u4 17), (u4 18), Ud]) rfl rfl (does_len_slice Try.underlying25 (ev rfl)) rfl ?_
    refine q_is (l' := [(.slice (some ⟨g, 0, none⟩) n cap), (Iv s.2), Ud, Ud, (Iv 0), (Iv (s.1 : Int)), (Iv (s.1 : Int)), (.slice (some ⟨g, 0, none⟩) n cap), (Iv (n : Int)), (Bo (icmp .lss (s.1 : Int) (n : Int))), (u4 10), (u4 11), (u4 12), (u4 13), (u4 14), (u4 15), (u4 16), (u4 17), (u4 18), Ud]) rfl rfl (does_icmp (p := (s.1 : Int)) (q := (n : Int)) (.inr (.inr (.inl rfl))) (ev rfl) (ev rfl)) rfl ?_
    refine wpList_nil (hK10 _ _ ?_)
    refine wp_cond_split (t := icmp .lss (s.1 : Int) (n : Int)) (ev rfl) (fun c11 => ?_) (fun c11 => ?_)
    · have c11' := c11
      (try simp only [icmp, Bool.and_eq_true, Bool.or_eq_true, Bool.and_eq_false_iff, Bool.or_eq_false_iff, Bool.not_eq_true', Bool.not_eq_false', decide_eq_true_eq, decide_eq_false_iff_not, beq_iff_eq, bne_iff_ne, beq_eq_false_iff_ne, bne_eq_false_iff_eq] at c11')
      refine wp_skip (hK9 _ _ ?_)
      refine wp_seq_k fun K12 hK12 => ?_
      refine wp_block ?_
      refine wp_seq_k fun K13 hK13 => ?_
      refine wp_region_lit ?_
      refine q_is (l' := [(.slice (some ⟨g, 0, none⟩) n cap), (Iv s.2), Ud, Ud, (Iv 0), (Iv (s.1 : Int)), (Iv (s.1 : Int)), (.slice (some ⟨g, 0, none⟩) n cap), (Iv (n : Int)), (Bo (icmp .lss (s.1 : Int) (n : Int))), (u4 10), (u4 11), (.slice (some ⟨g, 0, none⟩) n cap), (u4 13), (u4 14), (u4 15), (u4 16), (u4 17), (u4 18), Ud]) rfl rfl (does_move (u := (.slice (some ⟨g, 0, none⟩) n cap)) (ev rfl)) rfl ?_
      refine q_is (l' := [(.slice (some ⟨g, 0, none⟩) n cap), (Iv s.2), Ud, Ud, (Iv 0), (Iv (s.1 : Int)), (Iv (s.1 : Int)), (.slice (some ⟨g, 0, none⟩) n cap), (Iv (n : Int)), (Bo (icmp .lss (s.1 : Int) (n : Int))), (u4 10), (u4 11), (.slice (some ⟨g, 0, none⟩) n cap), (Iv (s.1 : Int)), (u4 14), (u4 15), (u4 16), (u4 17), (u4 18), Ud]) rfl rfl (does_move (u := (Iv (s.1 : Int))) (ev rfl)) rfl ?_
      refine q_is (l' := [(.slice (some ⟨g, 0, none⟩) n cap), (Iv s.2), Ud, Ud, (Iv 0), (Iv (s.1 : Int)), (Iv (s.1 : Int)), (.slice (some ⟨g, 0, none⟩) n cap), (Iv (n : Int)), (Bo (icmp .lss (s.1 : Int) (n : Int))), (u4 10), (u4 11), (.slice (some ⟨g, 0, none⟩) n cap), (Iv (s.1 : Int)), (Iv s.2), (u4 15), (u4 16), (u4 17), (u4 18), Ud]) rfl rfl (does_move (u := (Iv s.2)) (ev rfl)) rfl ?_
      refine q_is (l' := [(.slice (some ⟨g, 0, none⟩) n cap), (Iv s.2), Ud, Ud, (Iv 0), (Iv (s.1 : Int)), (Iv (s.1 : Int)), (.slice (some ⟨g, 0, none⟩) n cap), (Iv (n : Int)), (Bo (icmp .lss (s.1 : Int) (n : Int))), (u4 10), (u4 11), (.slice (some ⟨g, 0, none⟩) n cap), (Iv (s.1 : Int)), (Iv s.2), (Fl (FloatKind.f32.nearest s.2)), (u4 16), (u4 17), (u4 18), Ud]) rfl rfl (does_conv_if (k := .f32) Try.underlying3 Try.underlying22 (ev rfl)) rfl ?_
      refine q_is (l' := [(.slice (some ⟨g, 0, none⟩) n cap), (Iv s.2), Ud, Ud, (Iv 0), (Iv (s.1 : Int)), (Iv (s.1 : Int)), (.slice (some ⟨g, 0, none⟩) n cap), (Iv (n : Int)), (Bo (icmp .lss (s.1 : Int) (n : Int))), (u4 10), (u4 11), (.slice (some ⟨g, 0, none⟩) n cap), (Iv (s.1 : Int)), (Iv s.2), (Fl (FloatKind.f32.nearest s.2)), (Pt g (s.1 * 1)), (u4 17), (u4 18), Ud]) rfl rfl (does_indexOwn (b := g) (n := n) (i := (s.1 : Int)) Try.underlying25 Try.sizeOf22 (ev rfl) (ev rfl) (by omega) (by omega)) rfl ?_
      refine seqn rfl rfl (does_mark (fl := true) (k := k) (N := N) (off := s.1 * 1) (j := s.1 * 1) (u := (Fl (FloatKind.f32.nearest s.2))) (ev rfl) (ev rfl) Try.sizeOf22 (mkc_f (by first | rfl | omega)) (by omega) (by omega) hF7) ?_; rintro _ w16 ⟨rfl, W14, hM15⟩
      have X17 := KpL.more X8 (KpL.of_wr W14) (allS (.inl (by simp)) all0)
      refine wpList_nil (hK13 _ _ ?_)
      refine wp_region_lit ?_
      refine q_is (l' := [(.slice (some ⟨g, 0, none⟩) n cap), (Iv s.2), Ud, Ud, (Iv 0), (Iv (s.1 : Int)), (Iv (s.1 : Int)), (.slice (some ⟨g, 0, none⟩) n cap), (Iv (n : Int)), (Bo (icmp .lss (s.1 : Int) (n : Int))), (u4 10), (u4 11), (.slice (some ⟨g, 0, none⟩) n cap), (Iv (s.1 : Int)), (Iv s.2), (Fl (FloatKind.f32.nearest s.2)), (Pt g (s.1 * 1)), (Iv s.2), (u4 18), Ud]) rfl rfl (does_move (u := (Iv s.2)) (ev rfl)) rfl ?_
      refine q_is (l' := [(.slice (some ⟨g, 0, none⟩) n cap), (Iv s.2), Ud, Ud, (Iv 0), (Iv (s.1 : Int)), (Iv (s.1 : Int)), (.slice (some ⟨g, 0, none⟩) n cap), (Iv (n : Int)), (Bo (icmp .lss (s.1 : Int) (n : Int))), (u4 10), (u4 11), (.slice (some ⟨g, 0, none⟩) n cap), (Iv (s.1 : Int)), (Iv s.2), (Fl (FloatKind.f32.nearest s.2)), (Pt g (s.1 * 1)), (Iv s.2), (Iv (s.2 + 1)), Ud]) rfl rfl (does_iarith (p := s.2) (q := 1) (r := s.2 + 1) (ev rfl) (ev rfl) (.inl ⟨rfl, (in_i64 (by omega) (by omega)).symm⟩)) rfl ?_
      refine q_is (l' := [(.slice (some ⟨g, 0, none⟩) n cap), (Iv (s.2 + 1)), Ud, Ud, (Iv 0), (Iv (s.1 : Int)), (Iv (s.1 : Int)), (.slice (some ⟨g, 0, none⟩) n cap), (Iv (n : Int)), (Bo (icmp .lss (s.1 : Int) (n : Int))), (u4 10), (u4 11), (.slice (some ⟨g, 0, none⟩) n cap), (Iv (s.1 : Int)), (Iv s.2), (Fl (FloatKind.f32.nearest s.2)), (Pt g (s.1 * 1)), (Iv s.2), (Iv (s.2 + 1)), Ud]) rfl rfl (does_assign (u := (Iv (s.2 + 1))) (ev rfl)) rfl ?_
      refine wpList_nil (hK12 _ _ ?_)
      refine wp_region_lit ?_
      refine q_is (l' := [(.slice (some ⟨g, 0, none⟩) n cap), (Iv (s.2 + 1)), Ud, Ud, (Iv 0), (Iv (s.1 : Int)), (Iv (s.1 : Int)), (.slice (some ⟨g, 0, none⟩) n cap), (Iv (n : Int)), (Bo (icmp .lss (s.1 : Int) (n : Int))), (Iv (s.1 : Int)), (u4 11), (.slice (some ⟨g, 0, none⟩) n cap), (Iv (s.1 : Int)), (Iv s.2), (Fl (FloatKind.f32.nearest s.2)), (Pt g (s.1 * 1)), (Iv s.2), (Iv (s.2 + 1)), Ud]) rfl rfl (does_move (u := (Iv (s.1 : Int))) (ev rfl)) rfl ?_
      refine q_is (l' := [(.slice (some ⟨g, 0, none⟩) n cap), (Iv (s.2 + 1)), Ud, Ud, (Iv 0), (Iv (s.1 : Int)), (Iv (s.1 : Int)), (.slice (some ⟨g, 0, none⟩) n cap), (Iv (n : Int)), (Bo (icmp .lss (s.1 : Int) (n : Int))), (Iv (s.1 : Int)), (Iv ((s.1 : Int) + 1)), (.slice (some ⟨g, 0, none⟩) n cap), (Iv (s.1 : Int)), (Iv s.2), (Fl (FloatKind.f32.nearest s.2)), (Pt g (s.1 * 1)), (Iv s.2), (Iv (s.2 + 1)), Ud]) rfl rfl (does_iarith (p := (s.1 : Int)) (q := 1) (r := (s.1 : Int) + 1) (ev rfl) (ev rfl) (.inl ⟨rfl, (in_i64 (by omega) (by omega)).symm⟩)) rfl ?_
      refine q_is (l' := [(.slice (some ⟨g, 0, none⟩) n cap), (Iv (s.2 + 1)), Ud, Ud, (Iv 0), (Iv ((s.1 : Int) + 1)), (Iv (s.1 : Int)), (.slice (some ⟨g, 0, none⟩) n cap), (Iv (n : Int)), (Bo (icmp .lss (s.1 : Int) (n : Int))), (Iv (s.1 : Int)), (Iv ((s.1 : Int) + 1)), (.slice (some ⟨g, 0, none⟩) n cap), (Iv (s.1 : Int)), (Iv s.2), (Fl (FloatKind.f32.nearest s.2)), (Pt g (s.1 * 1)), (Iv s.2), (Iv (s.2 + 1)), Ud]) rfl rfl (does_assign (u := (Iv ((s.1 : Int) + 1))) (ev rfl)) rfl ?_
      refine wpList_nil ?_
      refine ⟨(s.1 + 1, s.2 + 1), ⟨fun t => (([(.slice (some ⟨g, 0, none⟩) n cap), (Iv (s.2 + 1)), Ud, Ud, (Iv 0), (Iv ((s.1 : Int) + 1)), (Iv (s.1 : Int)), (.slice (some ⟨g, 0, none⟩) n cap), (Iv (n : Int)), (Bo (icmp .lss (s.1 : Int) (n : Int))), (Iv (s.1 : Int)), (Iv ((s.1 : Int) + 1)), (.slice (some ⟨g, 0, none⟩) n cap), (Iv (s.1 : Int)), (Iv s.2), (Fl (FloatKind.f32.nearest s.2)), (Pt g (s.1 * 1)), (Iv s.2), (Iv (s.2 + 1)), Ud] : List Value)[t]?).getD undef, ?_, (KpL.more E6 (KpL.of_wr W14) (allS (.inl (by simp)) all0)), (Mk.cast hM15 (by (try dsimp only); omega)), ?_⟩, ?_⟩
      · first | rfl | (simp only [Nat.cast_add, Nat.cast_one, Int.natCast_add, Int.natCast_one]; rfl)
      · (try dsimp only); exact ⟨by omega, by omega⟩
      · (try dsimp only); omega
    have c11' := c11
    (try simp only [icmp, Bool.and_eq_true, Bool.or_eq_true, Bool.and_eq_false_iff, Bool.or_eq_false_iff, Bool.not_eq_true', Bool.not_eq_false', decide_eq_true_eq, decide_eq_false_iff_not, beq_iff_eq, bne_iff_ne, beq_eq_false_iff_ne, bne_eq_false_iff_eq] at c11')
    refine wp_exit ?_
    refine hK2 _ _ ?_
    refine wp_seq_k fun K18 hK18 => ?_
    refine wp_region_lit ?_
    refine q_is (l' := [(.slice (some ⟨g, 0, none⟩) n cap), (Iv s.2), Ud, Ud, (Iv 0), (Iv (s.1 : Int)), (Iv (s.1 : Int)), (.slice (some ⟨g, 0, none⟩) n cap), (Iv (n : Int)), (Bo (icmp .lss (s.1 : Int) (n : Int))), (u4 10), (u4 11), (u4 12), (u4 13), (u4 14), (u4 15), (u4 16), (u4 17), (u4 18), (Iv s.2)]) rfl rfl (does_move (u := (Iv s.2)) (ev rfl)) rfl ?_
    refine q_is (l' := [(.slice (some ⟨g, 0, none⟩) n cap), (Iv s.2), Ud, Ud, (Iv s.2), (Iv (s.1 : Int)), (Iv (s.1 : Int)), (.slice (some ⟨g, 0, none⟩) n cap), (Iv (n : Int)), (Bo (icmp .lss (s.1 : Int) (n : Int))), (u4 10), (u4 11), (u4 12), (u4 13), (u4 14), (u4 15), (u4 16), (u4 17), (u4 18), (Iv s.2)]) rfl rfl (does_assign (u := (Iv s.2)) (ev rfl)) rfl ?_
    refine wpList_nil (hK18 _ _ ?_)
    refine wp_ret ?_
    refine ret_valK (v := (Iv s.2)) (res_T rfl (slot rfl)) X8 ?_
    have hj : s.1 = n := by omega
    exact ⟨by first | rfl | (show Value.int _ _ = Value.int _ _; congr 1; omega), Mk.cast hF7 (by rw [hj])⟩

theorem c_laws_markFloat32S (a : Value) (n : Nat) (L : List Nat) (B : Nat) (k : Int) (w : World) (ha : WL 1 B w L a n) (h0 : 0 ≤ k) (h1 : k + (n : Int) * 1 ≤ 4611686018427387904) : GivesK L Try.prog 29 #[a, Iv k] w (fun v w' => v = Iv (k + (n : Int) * 1) ∧ Hang B w' (fun u => Sl RF 1 u a (mkL fF 1 k n))) := by
  obtain ⟨hL, ⟨rfl, rfl, rfl⟩ | ⟨g, cap, cs, rfl, rfl, hB, hn, hc⟩⟩ := ha
  · exact (Gives.toK (c_laws_markFloat32S_nil k w)).mono fun v w' hv => ⟨by rw [hv]; simp, fun u _ => Sl_mk0 u⟩
  · exact (c_laws_markFloat32S_blk g cs.length n cap k w (Mk.zero hB rfl) hn h0 h1).mono fun v w' ⟨hv, hM⟩ => ⟨hv, Mk.hang hM (hL g (by simp)).1 hc (by decide) (by omega) rF⟩

/- laws.heldVectorS -/
theorem c_laws_heldVectorS (a : Value) (L_a : List V3) (k : Int) (w : World) (hv_a : Sl RV3 3 w a L_a) (hm : L_a = mkL fV 3 k L_a.length) (h0 : 0 ≤ k) (h1 : k + (L_a.length : Int) * 3 ≤ 4611686018427387904) : Gives Try.prog 30 #[a, (Iv k)] w (fun v w' => v = (Iv (k + (L_a.length : Int) * 3))) := by
  have hlen_a := Sl.len hv_a; obtain ⟨p_a, q_a, rfl⟩ := Sl.shape hv_a
  refine enter [(.slice p_a L_a.length q_a), (Iv k), Ud, Ud, Ud, Ud, Ud, Ud, Ud, Ud, Ud, Ud, Ud, Ud, Ud, Ud, Ud, Ud, Ud, Ud, Ud, Ud, Ud, Ud, Ud, Ud, Ud, Ud, Ud, Ud, Ud, Ud, Ud, Ud, Ud, Ud, Ud, Ud, Ud, Ud, Ud, Ud, Ud] Try.func30 rfl Try.ntmps30 rfl ?_
  refine wp_seq_k fun K1 hK1 => ?_
  refine wp_region_lit ?_
  refine q_is rfl rfl (does_assign (u := (Iv 0)) (ev rfl)) (by dsimp only [List.set]; try rfl) ?_
  refine wpList_nil (hK1 _ _ ?_)
  refine wp_seq_k fun K2 hK2 => ?_
  refine wp_seq_k fun K3 hK3 => ?_
  refine wp_region_lit ?_
  refine q_is rfl rfl (does_assign (u := (Iv 0)) (ev rfl)) (by dsimp only [List.set]; try rfl) ?_
  refine wpList_nil (hK3 _ _ ?_)
  refine wp_block ?_
  refine loop_ghost (σ := Nat × Int) (fun s a w' => ∃ u4 : Nat → Value, a = fr [(.slice p_a L_a.length q_a), (Iv s.2), Ud, Ud, (u4 4), (Iv (s.1 : Int)), (u4 6), (u4 7), (u4 8), (u4 9), (u4 10), (u4 11), (u4 12), (u4 13), (u4 14), (u4 15), (u4 16), (u4 17), (u4 18), (u4 19), (u4 20), (u4 21), (u4 22), (u4 23), (u4 24), (u4 25), (u4 26), (u4 27), (u4 28), (u4 29), (u4 30), (u4 31), (u4 32), (u4 33), (u4 34), (u4 35), (u4 36), (u4 37), (u4 38), (u4 39), (u4 40), (u4 41), Ud] ∧ Ext w w' ∧ (s.1 ≤ L_a.length ∧ s.2 = k + (s.1 : Int) * 3)) (fun s => L_a.length - s.1) (0, k) ?_ ?_
  · refine ⟨fun t => (([(.slice p_a L_a.length q_a), (Iv k), Ud, Ud, (Iv 0), (Iv 0), Ud, Ud, Ud, Ud, Ud, Ud, Ud, Ud, Ud, Ud, Ud, Ud, Ud, Ud, Ud, Ud, Ud, Ud, Ud, Ud, Ud, Ud, Ud, Ud, Ud, Ud, Ud, Ud, Ud, Ud, Ud, Ud, Ud, Ud, Ud, Ud, Ud] : List Value)[t]?).getD undef, rfl, Ext.refl _, ?_⟩
    exact ⟨Nat.zero_le _, by simp⟩
  · rintro s a w5 ⟨u4, rfl, E6, ⟨hk, hn2⟩⟩
    have X8 := Ext.gr (Ext.refl w) E6
    refine wp_seq_k fun K9 hK9 => ?_
    refine wp_seq_k fun K10 hK10 => ?_
    refine wp_region_lit ?_
    refine q_is rfl rfl (does_move (u := (Iv (s.1 : Int))) (ev rfl)) (by dsimp only [List.set]; try rfl) ?_
    refine q_is rfl rfl (does_move (u := (.slice p_a L_a.length q_a)) (ev rfl)) (by dsimp only [List.set]; try rfl) ?_
    refine q_is rfl rfl (does_len_slice Try.underlying47 (ev rfl)) (by dsimp only [List.set]; try rfl) ?_
    refine q_is rfl rfl (does_icmp (p := (s.1 : Int)) (q := (L_a.length : Int)) (.inr (.inr (.inl rfl))) (ev rfl) (ev rfl)) (by dsimp only [List.set]; try rfl) ?_
    refine wpList_nil (hK10 _ _ ?_)
    refine wp_cond_split (t := icmp .lss (s.1 : Int) (L_a.length : Int)) (ev rfl) (fun c11 => ?_) (fun c11 => ?_)
    · have c11' := c11
      (try simp only [icmp, Bool.and_eq_true, Bool.or_eq_true, Bool.and_eq_false_iff, Bool.or_eq_false_iff, Bool.not_eq_true', Bool.not_eq_false', decide_eq_true_eq, decide_eq_false_iff_not, beq_iff_eq, bne_iff_ne, beq_eq_false_iff_ne, bne_eq_false_iff_eq] at c11')
      refine wp_skip (hK9 _ _ ?_)
      refine wp_seq_k fun K12 hK12 => ?_
      refine wp_block ?_
      refine wp_seq_k fun K13 hK13 => ?_
      refine wp_seq_k fun K14 hK14 => ?_
      refine wp_region_lit ?_
      refine q_is rfl rfl (does_move (u := (.slice p_a L_a.length q_a)) (ev rfl)) (by dsimp only [List.set]; try rfl) ?_
      refine q_is rfl rfl (does_move (u := (Iv (s.1 : Int))) (ev rfl)) (by dsimp only [List.set]; try rfl) ?_
      obtain ⟨el1, hel1⟩ : ∃ e, L_a[s.1]? = some e := ⟨_, List.getElem?_eq_getElem (by omega)⟩
      refine seqd rfl rfl (does_indexSl (R := RV3) (i := (s.1 : Int)) (xs := L_a) (e := el1) Try.underlying47 Try.sizeOf32 (ev rfl) (ev rfl) (Sl.ext hv_a RV3.mono X8) (by omega) hel1) ?_; rintro _ w5 ⟨b15, o16, _, rfl, hc18, ⟨r19, r21, r23, rfl, h20, h22, h24⟩, rfl⟩
      show wpList _ _ _ _ (fr [_, _, _, _, _, _, _, _, _, _, _, _, _, _, _, _, _, _, _, _, _, _, _, _, _, _, _, _, _, _, _, _, _, _, _, _, _, _, _, _, _, _, _]) _
      refine q_is rfl rfl (does_fieldAddr (ev rfl) fa32_0) (by dsimp only [List.set]; try rfl) ?_
      refine q_is rfl rfl (does_load (u := (Fl r19)) (ev rfl) Try.isAgg22 (Cells.at hc18 0 rfl)) (by dsimp only [List.set]; try rfl) ?_
      refine q_is rfl rfl (does_move (u := (Iv s.2)) (ev rfl)) (by dsimp only [List.set]; try rfl) ?_
      refine q_is rfl rfl (does_conv_if (k := .f32) Try.underlying3 Try.underlying22 (ev rfl)) (by dsimp only [List.set]; try rfl) ?_
      refine q_is rfl rfl (does_fcmp (.inr (.inl rfl)) (ev rfl) (ev rfl)) (by dsimp only [List.set]; try rfl) ?_
      refine wpList_nil (hK14 _ _ ?_)
      refine wp_cond_split (t := fcmp .neq (ford .f32 (cf .f32 r19) (cf .f32 (FloatKind.f32.nearest s.2)))) (ev rfl) (fun c25 => ?_) (fun c25 => ?_)
      · have c25' := c25
        exfalso; have he := mkL_at hm hel1; have e2 : s.2 = k + ((s.1 * 3 : Nat) : Int) := (by omega); simp only [hel1, h20, h22, h24] at c25; rw [he, e2] at c25; simp only [fV] at c25; exact Bool.false_ne_true ((fF_self (k + ((s.1 * 3 : Nat) : Int))).symm.trans c25)
      have c25' := c25
      refine wp_skip (hK13 _ _ ?_)
      refine wp_seq_k fun K26 hK26 => ?_
      refine wp_region_lit ?_
      refine q_is rfl rfl (does_move (u := (Iv s.2)) (ev rfl)) (by dsimp only [List.set]; try rfl) ?_
      refine q_is rfl rfl (does_iarith (p := s.2) (q := 1) (r := s.2 + 1) (ev rfl) (ev rfl) (.inl ⟨rfl, (in_i64 (by omega) (by omega)).symm⟩)) (by dsimp only [List.set]; try rfl) ?_
      refine q_is rfl rfl (does_assign (u := (Iv (s.2 + 1))) (ev rfl)) (by dsimp only [List.set]; try rfl) ?_
      refine wpList_nil (hK26 _ _ ?_)
      refine wp_seq_k fun K27 hK27 => ?_
      refine wp_seq_k fun K28 hK28 => ?_
      refine wp_region_lit ?_
      refine q_is rfl rfl (does_move (u := (.slice p_a L_a.length q_a)) (ev rfl)) (by dsimp only [List.set]; try rfl) ?_
      refine q_is rfl rfl (does_move (u := (Iv (s.1 : Int))) (ev rfl)) (by dsimp only [List.set]; try rfl) ?_
      refine seqd rfl rfl (does_indexSl (R := RV3) (i := (s.1 : Int)) (xs := L_a) (e := el1) Try.underlying47 Try.sizeOf32 (ev rfl) (ev rfl) (Sl.ext hv_a RV3.mono X8) (by omega) hel1) ?_; rintro _ w5 ⟨b29, o30, _, rfl, hc32, ⟨r33, r35, r37, rfl, h34, h36, h38⟩, rfl⟩
      show wpList _ _ _ _ (fr [_, _, _, _, _, _, _, _, _, _, _, _, _, _, _, _, _, _, _, _, _, _, _, _, _, _, _, _, _, _, _, _, _, _, _, _, _, _, _, _, _, _, _]) _
      refine q_is rfl rfl (does_fieldAddr (ev rfl) fa32_1) (by dsimp only [List.set]; try rfl) ?_
      refine q_is rfl rfl (does_load (u := (Fl r35)) (ev rfl) Try.isAgg22 (Cells.at hc32 1 rfl)) (by dsimp only [List.set]; try rfl) ?_
      refine q_is rfl rfl (does_move (u := (Iv (s.2 + 1))) (ev rfl)) (by dsimp only [List.set]; try rfl) ?_
      refine q_is rfl rfl (does_conv_if (k := .f32) Try.underlying3 Try.underlying22 (ev rfl)) (by dsimp only [List.set]; try rfl) ?_
      refine q_is rfl rfl (does_fcmp (.inr (.inl rfl)) (ev rfl) (ev rfl)) (by dsimp only [List.set]; try rfl) ?_
      refine wpList_nil (hK28 _ _ ?_)
      refine wp_cond_split (t := fcmp .neq (ford .f32 (cf .f32 r35) (cf .f32 (FloatKind.f32.nearest (s.2 + 1))))) (ev rfl) (fun c39 => ?_) (fun c39 => ?_)
      · have c39' := c39
        exfalso; have he := mkL_at hm hel1; have e2 : s.2 = k + ((s.1 * 3 : Nat) : Int) := (by omega); simp only [hel1, h20, h22, h24, h34, h36, h38] at c39; rw [he, e2] at c39; simp only [fV] at c39; exact Bool.false_ne_true ((fF_self (k + ((s.1 * 3 : Nat) : Int) + 1)).symm.trans c39)
      have c39' := c39
      refine wp_skip (hK27 _ _ ?_)
      refine wp_seq_k fun K40 hK40 => ?_
      refine wp_region_lit ?_
      refine q_is rfl rfl (does_move (u := (Iv (s.2 + 1))) (ev rfl)) (by dsimp only [List.set]; try rfl) ?_
      refine q_is rfl rfl (does_iarith (p := s.2 + 1) (q := 1) (r := (s.2 + 1) + 1) (ev rfl) (ev rfl) (.inl ⟨rfl, (in_i64 (by omega) (by omega)).symm⟩)) (by dsimp only [List.set]; try rfl) ?_
      refine q_is rfl rfl (does_assign (u := (Iv ((s.2 + 1) + 1))) (ev rfl)) (by dsimp only [List.set]; try rfl) ?_
      refine wpList_nil (hK40 _ _ ?_)
      refine wp_seq_k fun K41 hK41 => ?_
      refine wp_seq_k fun K42 hK42 => ?_
      refine wp_region_lit ?_
      refine q_is rfl rfl (does_move (u := (.slice p_a L_a.length q_a)) (ev rfl)) (by dsimp only [List.set]; try rfl) ?_
      refine q_is rfl rfl (does_move (u := (Iv (s.1 : Int))) (ev rfl)) (by dsimp only [List.set]; try rfl) ?_
      refine seqd rfl rfl (does_indexSl (R := RV3) (i := (s.1 : Int)) (xs := L_a) (e := el1) Try.underlying47 Try.sizeOf32 (ev rfl) (ev rfl) (Sl.ext hv_a RV3.mono X8) (by omega) hel1) ?_; rintro _ w5 ⟨b43, o44, _, rfl, hc46, ⟨r47, r49, r51, rfl, h48, h50, h52⟩, rfl⟩
      show wpList _ _ _ _ (fr [_, _, _, _, _, _, _, _, _, _, _, _, _, _, _, _, _, _, _, _, _, _, _, _, _, _, _, _, _, _, _, _, _, _, _, _, _, _, _, _, _, _, _]) _
      refine q_is rfl rfl (does_fieldAddr (ev rfl) fa32_2) (by dsimp only [List.set]; try rfl) ?_
      refine q_is rfl rfl (does_load (u := (Fl r51)) (ev rfl) Try.isAgg22 (Cells.at hc46 2 rfl)) (by dsimp only [List.set]; try rfl) ?_
      refine q_is rfl rfl (does_move (u := (Iv ((s.2 + 1) + 1))) (ev rfl)) (by dsimp only [List.set]; try rfl) ?_
      refine q_is rfl rfl (does_conv_if (k := .f32) Try.underlying3 Try.underlying22 (ev rfl)) (by dsimp only [List.set]; try rfl) ?_
      refine q_is rfl rfl (does_fcmp (.inr (.inl rfl)) (ev rfl) (ev rfl)) (by dsimp only [List.set]; try rfl) ?_
      refine wpList_nil (hK42 _ _ ?_)
      refine wp_cond_split (t := fcmp .neq (ford .f32 (cf .f32 r51) (cf .f32 (FloatKind.f32.nearest ((s.2 + 1) + 1))))) (ev rfl) (fun c53 => ?_) (fun c53 => ?_)
      · have c53' := c53
        exfalso; have he := mkL_at hm hel1; have e2 : s.2 = k + ((s.1 * 3 : Nat) : Int) := (by omega); simp only [hel1, h20, h22, h24, h34, h36, h38, h48, h50, h52] at c53; rw [he, e2] at c53; simp only [fV] at c53; rw [show k + ((s.1 * 3 : Nat) : Int) + 1 + 1 = k + ((s.1 * 3 : Nat) : Int) + 2 from (by omega)] at c53; exact Bool.false_ne_true ((fF_self (k + ((s.1 * 3 : Nat) : Int) + 2)).symm.trans c53)
      have c53' := c53
      refine wp_skip (hK41 _ _ ?_)
      refine wp_region_lit ?_
      refine q_is rfl rfl (does_move (u := (Iv ((s.2 + 1) + 1))) (ev rfl)) (by dsimp only [List.set]; try rfl) ?_
      refine q_is rfl rfl (does_iarith (p := (s.2 + 1) + 1) (q := 1) (r := ((s.2 + 1) + 1) + 1) (ev rfl) (ev rfl) (.inl ⟨rfl, (in_i64 (by omega) (by omega)).symm⟩)) (by dsimp only [List.set]; try rfl) ?_
      refine q_is rfl rfl (does_assign (u := (Iv (((s.2 + 1) + 1) + 1))) (ev rfl)) (by dsimp only [List.set]; try rfl) ?_
      refine wpList_nil (hK12 _ _ ?_)
      refine wp_region_lit ?_
      refine q_is rfl rfl (does_move (u := (Iv (s.1 : Int))) (ev rfl)) (by dsimp only [List.set]; try rfl) ?_
      refine q_is rfl rfl (does_iarith (p := (s.1 : Int)) (q := 1) (r := (s.1 : Int) + 1) (ev rfl) (ev rfl) (.inl ⟨rfl, (in_i64 (by omega) (by omega)).symm⟩)) (by dsimp only [List.set]; try rfl) ?_
      refine q_is rfl rfl (does_assign (u := (Iv ((s.1 : Int) + 1))) (ev rfl)) (by dsimp only [List.set]; try rfl) ?_
      refine wpList_nil ?_
      refine ⟨(s.1 + 1, ((s.2 + 1) + 1) + 1), ⟨fun t => (([(.slice p_a L_a.length q_a), (Iv (((s.2 + 1) + 1) + 1)), Ud, Ud, (u4 4), (Iv ((s.1 : Int) + 1)), (Iv (s.1 : Int)), (.slice p_a L_a.length q_a), (Iv (L_a.length : Int)), (Bo (icmp .lss (s.1 : Int) (L_a.length : Int))), (Iv (s.1 : Int)), (Iv ((s.1 : Int) + 1)), (.slice p_a L_a.length q_a), (Iv (s.1 : Int)), (Pt b15 o16), (Pt b15 o16), (Fl r19), (Iv s.2), (Fl (FloatKind.f32.nearest s.2)), (Bo (fcmp .neq (ford .f32 (cf .f32 r19) (cf .f32 (FloatKind.f32.nearest s.2))))), (Iv s.2), (Iv (s.2 + 1)), (.slice p_a L_a.length q_a), (Iv (s.1 : Int)), (Pt b29 o30), (Pt b29 (o30 + 1)), (Fl r35), (Iv (s.2 + 1)), (Fl (FloatKind.f32.nearest (s.2 + 1))), (Bo (fcmp .neq (ford .f32 (cf .f32 r35) (cf .f32 (FloatKind.f32.nearest (s.2 + 1)))))), (Iv (s.2 + 1)), (Iv ((s.2 + 1) + 1)), (.slice p_a L_a.length q_a), (Iv (s.1 : Int)), (Pt b43 o44), (Pt b43 (o44 + 2)), (Fl r51), (Iv ((s.2 + 1) + 1)), (Fl (FloatKind.f32.nearest ((s.2 + 1) + 1))), (Bo (fcmp .neq (ford .f32 (cf .f32 r51) (cf .f32 (FloatKind.f32.nearest ((s.2 + 1) + 1)))))), (Iv ((s.2 + 1) + 1)), (Iv (((s.2 + 1) + 1) + 1)), Ud] : List Value)[t]?).getD undef, ?_, E6, ?_⟩, ?_⟩
      · first | rfl | (simp only [Nat.cast_add, Nat.cast_one, Int.natCast_add, Int.natCast_one]; rfl)
      · (try dsimp only); exact ⟨by omega, by (try dsimp only); omega⟩
      · (try dsimp only); omega
    have c11' := c11
    (try simp only [icmp, Bool.and_eq_true, Bool.or_eq_true, Bool.and_eq_false_iff, Bool.or_eq_false_iff, Bool.not_eq_true', Bool.not_eq_false', decide_eq_true_eq, decide_eq_false_iff_not, beq_iff_eq, bne_iff_ne, beq_eq_false_iff_ne, bne_eq_false_iff_eq] at c11')
    refine wp_exit ?_
    refine hK2 _ _ ?_
    refine wp_seq_k fun K54 hK54 => ?_
    refine wp_region_lit ?_
    refine q_is rfl rfl (does_move (u := (Iv s.2)) (ev rfl)) (by dsimp only [List.set]; try rfl) ?_
    refine q_is rfl rfl (does_assign (u := (Iv s.2)) (ev rfl)) (by dsimp only [List.set]; try rfl) ?_
    refine wpList_nil (hK54 _ _ ?_)
    refine wp_ret ?_
    refine ret_val (v := (Iv s.2)) (res_T rfl (slot rfl)) X8 ?_
    have x55 : (k + (L_a.length : Int) * 3 : Int) = s.2 := by first | omega | (rw [hn2, show s.1 = L_a.length by omega])
    exact (by first | with_reducible rfl | rw [x55] | rfl)

/- laws.FnExactPartBalls -/
theorem c_laws_FnExactPartBalls (ctr : Value) (L_ctr : List V3) (rad : Value) (L_rad : List Nat) (rnd : Int) (w : World) (hv_ctr : Sl RV3 3 w ctr L_ctr) (hv_rad : Sl RF 1 w rad L_rad) : Gives Try.prog 5 #[ctr, rad, (Iv rnd)] w (fun v w' => v = (Bo true)) := by
  have hlen_ctr := Sl.len hv_ctr; obtain ⟨p_ctr, q_ctr, rfl⟩ := Sl.shape hv_ctr
  have hlen_rad := Sl.len hv_rad; obtain ⟨p_rad, q_rad, rfl⟩ := Sl.shape hv_rad
  have hgl := ptL_len L_ctr L_rad rnd
  refine enter [(.slice p_ctr L_ctr.length q_ctr), (.slice p_rad L_rad.length q_rad), (Iv rnd), Ud, Ud, Ud, Ud, Ud, Ud, Ud, Ud, Ud, Ud, Ud, Ud, Ud, Ud, Ud, Ud, Ud, Ud, Ud, Ud, Ud, Ud, Ud, Ud, Ud, Ud, Ud, Ud, Ud, Ud, Ud, Ud, Ud, Ud, Ud, Ud, Ud, Ud, Ud, Ud, Ud, Ud, Ud, Ud, Ud, Ud, Ud, Ud, Ud, Ud, Ud, Ud, Ud, Ud, Ud, Ud, Ud, Ud, Ud, Ud, Ud, Ud, Ud, Ud, Ud, Ud, Ud, Ud, Ud, Ud, Ud, Ud, Ud, Ud, Ud, Ud, Ud, Ud, Ud, Ud, Ud, Ud, Ud, Ud, Ud, Ud, Ud, Ud, Ud, Ud, Ud, Ud, Ud, Ud, Ud, Ud, Ud, Ud, Ud, Ud, Ud, Ud, Ud, Ud, Ud, Ud, Ud, Ud, Ud, Ud, Ud, Ud, Ud, Ud, Ud, Ud, Ud, Ud, Ud] Try.func5 rfl Try.ntmps5 rfl ?_
  refine wp_seq_k fun K1 hK1 => ?_
  refine wp_region_lit ?_
  refine q_is rfl rfl (does_assign (u := (Bo false)) (ev rfl)) (by dsimp only [List.set]; try rfl) ?_
  refine wpList_nil (hK1 _ _ ?_)
  refine wp_seq_k fun K2 hK2 => ?_
  refine wp_seq_k fun K3 hK3 => ?_
  refine wp_region_lit ?_
  refine q_is rfl rfl (does_move (u := (.slice p_rad L_rad.length q_rad)) (ev rfl)) (by dsimp only [List.set]; try rfl) ?_
  refine q_is rfl rfl (does_len_slice Try.underlying25 (ev rfl)) (by dsimp only [List.set]; try rfl) ?_
  refine q_is rfl rfl (does_icmp (p := (L_rad.length : Int)) (q := 1048576) (.inr (.inr (.inr (.inr (.inl rfl))))) (ev rfl) (ev rfl)) (by dsimp only [List.set]; try rfl) ?_
  refine wpList_nil (hK3 _ _ ?_)
  refine wp_cond_split (t := icmp .gtr (L_rad.length : Int) 1048576) (ev rfl) (fun c4 => ?_) (fun c4 => ?_)
  · have c4' := c4
    (try simp only [sameX_selfV, sameL_self, bne_self_eq_false] at c4')
    (try simp only [icmp, Bool.and_eq_true, Bool.or_eq_true, Bool.and_eq_false_iff, Bool.or_eq_false_iff, Bool.not_eq_true', Bool.not_eq_false', decide_eq_true_eq, decide_eq_false_iff_not, beq_iff_eq, bne_iff_ne, beq_eq_false_iff_ne, bne_eq_false_iff_eq] at c4')
    refine wp_seq_k fun K5 hK5 => ?_
    refine wp_region_lit ?_
    refine q_is rfl rfl (does_assign (u := (Bo true)) (ev rfl)) (by dsimp only [List.set]; try rfl) ?_
    refine wpList_nil (hK5 _ _ ?_)
    refine wp_ret ?_
    dsimp only [Exit.then, Exit.inBlock]
    refine ret_val (v := (Bo true)) (res_T rfl (slot rfl)) (Ext.refl w) ?_
    try simp only [sameX_selfV, sameL_self, bne_self_eq_false] at c4
    exact rfl
  have c4' := c4
  (try simp only [sameX_selfV, sameL_self, bne_self_eq_false] at c4')
  (try simp only [icmp, Bool.and_eq_true, Bool.or_eq_true, Bool.and_eq_false_iff, Bool.or_eq_false_iff, Bool.not_eq_true', Bool.not_eq_false', decide_eq_true_eq, decide_eq_false_iff_not, beq_iff_eq, bne_iff_ne, beq_eq_false_iff_ne, bne_eq_false_iff_eq] at c4')
  refine wp_skip (hK2 _ _ ?_)
  refine wp_seq_k fun K6 hK6 => ?_
  refine wp_region_lit ?_
  refine q_is rfl rfl (does_assign (u := (Iv 1048576)) (ev rfl)) (by dsimp only [List.set]; try rfl) ?_
  refine wpList_nil (hK6 _ _ ?_)
  refine wp_seq_k fun K7 hK7 => ?_
  refine wp_region_lit ?_
  refine q_is rfl rfl (does_move (u := (.slice p_ctr L_ctr.length q_ctr)) (ev rfl)) (by dsimp only [List.set]; try rfl) ?_
  refine q_is rfl rfl (does_move (u := (Iv 1048576)) (ev rfl)) (by dsimp only [List.set]; try rfl) ?_
  refine seqd rfl rfl (does_call (args := #[(.slice p_ctr L_ctr.length q_ctr), (Iv 1048576)]) cal21 (evs rfl) (c_laws_szVectorS (.slice p_ctr L_ctr.length q_ctr) L_ctr 1048576 _ hv_ctr (by omega) (by omega))) ?_; rintro _ w9 ⟨E8, ⟨i10, rfl, h11⟩⟩
  have X12 := Ext.gr (Ext.refl w) E8
  show wpList _ _ _ _ (fr [_, _, _, _, _, _, _, _, _, _, _, _, _, _, _, _, _, _, _, _, _, _, _, _, _, _, _, _, _, _, _, _, _, _, _, _, _, _, _, _, _, _, _, _, _, _, _, _, _, _, _, _, _, _, _, _, _, _, _, _, _, _, _, _, _, _, _, _, _, _, _, _, _, _, _, _, _, _, _, _, _, _, _, _, _, _, _, _, _, _, _, _, _, _, _, _, _, _, _, _, _, _, _, _, _, _, _, _, _, _, _, _, _, _, _, _, _, _, _, _, _, _]) _
  refine q_is rfl rfl (does_assign (u := (Iv i10)) (ev rfl)) (by dsimp only [List.set]; try rfl) ?_
  refine wpList_nil (hK7 _ _ ?_)
  refine wp_seq_k fun K13 hK13 => ?_
  refine wp_seq_k fun K14 hK14 => ?_
  refine wp_region_lit ?_
  refine q_is rfl rfl (does_move (u := (Iv i10)) (ev rfl)) (by dsimp only [List.set]; try rfl) ?_
  refine q_is rfl rfl (does_icmp (p := i10) (q := 0) (.inr (.inr (.inl rfl))) (ev rfl) (ev rfl)) (by dsimp only [List.set]; try rfl) ?_
  refine wpList_nil (hK14 _ _ ?_)
  refine wp_cond_split (t := icmp .lss i10 0) (ev rfl) (fun c15 => ?_) (fun c15 => ?_)
  · have c15' := c15
    (try simp only [sameX_selfV, sameL_self, bne_self_eq_false] at c15')
    (try simp only [icmp, Bool.and_eq_true, Bool.or_eq_true, Bool.and_eq_false_iff, Bool.or_eq_false_iff, Bool.not_eq_true', Bool.not_eq_false', decide_eq_true_eq, decide_eq_false_iff_not, beq_iff_eq, bne_iff_ne, beq_eq_false_iff_ne, bne_eq_false_iff_eq] at c15')
    refine wp_seq_k fun K16 hK16 => ?_
    refine wp_region_lit ?_
    refine q_is rfl rfl (does_assign (u := (Bo true)) (ev rfl)) (by dsimp only [List.set]; try rfl) ?_
    refine wpList_nil (hK16 _ _ ?_)
    refine wp_ret ?_
    dsimp only [Exit.then, Exit.inBlock]
    refine ret_val (v := (Bo true)) (res_T rfl (slot rfl)) X12 ?_
    try simp only [sameX_selfV, sameL_self, bne_self_eq_false] at c4 c15
    exact rfl
  have c15' := c15
  (try simp only [sameX_selfV, sameL_self, bne_self_eq_false] at c15')
  (try simp only [icmp, Bool.and_eq_true, Bool.or_eq_true, Bool.and_eq_false_iff, Bool.or_eq_false_iff, Bool.not_eq_true', Bool.not_eq_false', decide_eq_true_eq, decide_eq_false_iff_not, beq_iff_eq, bne_iff_ne, beq_eq_false_iff_ne, bne_eq_false_iff_eq] at c15')
  refine wp_skip (hK13 _ _ ?_)
  refine wp_seq_k fun K17 hK17 => ?_
  refine wp_region_lit ?_
  refine q_is rfl rfl (does_move (u := (.slice p_ctr L_ctr.length q_ctr)) (ev rfl)) (by dsimp only [List.set]; try rfl) ?_
  refine seqd rfl rfl (does_call (args := #[(.slice p_ctr L_ctr.length q_ctr)]) cal23 (evs rfl) (c_laws_toVectorS (.slice p_ctr L_ctr.length q_ctr) L_ctr _ (Sl.ext hv_ctr RV3.mono X12) (by omega))) ?_; rintro _ w19 ⟨E18, ⟨y21, Lw22, rfl, hh20, hw23⟩⟩
  have X24 := Ext.gr X12 E18
  obtain ⟨p25, q26, rfl⟩ := Sl.shape hh20.get
  have hw27 : WL 3 w9.heap.size w19 Lw22 (.slice p25 L_ctr.length q26) L_ctr.length := hw23
  show wpList _ _ _ _ (fr [_, _, _, _, _, _, _, _, _, _, _, _, _, _, _, _, _, _, _, _, _, _, _, _, _, _, _, _, _, _, _, _, _, _, _, _, _, _, _, _, _, _, _, _, _, _, _, _, _, _, _, _, _, _, _, _, _, _, _, _, _, _, _, _, _, _, _, _, _, _, _, _, _, _, _, _, _, _, _, _, _, _, _, _, _, _, _, _, _, _, _, _, _, _, _, _, _, _, _, _, _, _, _, _, _, _, _, _, _, _, _, _, _, _, _, _, _, _, _, _, _, _]) _
  refine q_is rfl rfl (does_move (u := (.slice p_rad L_rad.length q_rad)) (ev rfl)) (by dsimp only [List.set]; try rfl) ?_
  refine seqd rfl rfl (does_call (args := #[(.slice p_rad L_rad.length q_rad)]) cal24 (evs rfl) (c_laws_toFloat32S (.slice p_rad L_rad.length q_rad) L_rad _ (Sl.ext hv_rad RF.mono X24) (by omega))) ?_; rintro _ w29 ⟨E28, ⟨y31, Lw32, rfl, hh30, hw33⟩⟩
  have X34 := Ext.gr X24 E28
  obtain ⟨p35, q36, rfl⟩ := Sl.shape hh30.get
  have hw37 : WL 1 w19.heap.size w29 Lw32 (.slice p35 L_rad.length q36) L_rad.length := hw33
  show wpList _ _ _ _ (fr [_, _, _, _, _, _, _, _, _, _, _, _, _, _, _, _, _, _, _, _, _, _, _, _, _, _, _, _, _, _, _, _, _, _, _, _, _, _, _, _, _, _, _, _, _, _, _, _, _, _, _, _, _, _, _, _, _, _, _, _, _, _, _, _, _, _, _, _, _, _, _, _, _, _, _, _, _, _, _, _, _, _, _, _, _, _, _, _, _, _, _, _, _, _, _, _, _, _, _, _, _, _, _, _, _, _, _, _, _, _, _, _, _, _, _, _, _, _, _, _, _, _]) _
  refine q_is rfl rfl (does_move (u := (Iv rnd)) (ev rfl)) (by dsimp only [List.set]; try rfl) ?_
  refine seqd rfl rfl (does_call (args := #[(.slice p25 L_ctr.length q26), (.slice p35 L_rad.length q36), (Iv rnd)]) cal22 (evs rfl) (c_spec_PartBalls (.slice p25 L_ctr.length q26) L_ctr (.slice p35 L_rad.length q36) L_rad rnd _ (hh20 _ ((Same.refl _ _).ext E28)) hh30.get)) ?_; rintro _ w39 ⟨E38, ⟨y41, rfl, hh40⟩⟩
  have X42 := Ext.gr X34 E38
  obtain ⟨p43, q44, rfl⟩ := Sl.shape hh40.get
  show wpList _ _ _ _ (fr [_, _, _, _, _, _, _, _, _, _, _, _, _, _, _, _, _, _, _, _, _, _, _, _, _, _, _, _, _, _, _, _, _, _, _, _, _, _, _, _, _, _, _, _, _, _, _, _, _, _, _, _, _, _, _, _, _, _, _, _, _, _, _, _, _, _, _, _, _, _, _, _, _, _, _, _, _, _, _, _, _, _, _, _, _, _, _, _, _, _, _, _, _, _, _, _, _, _, _, _, _, _, _, _, _, _, _, _, _, _, _, _, _, _, _, _, _, _, _, _, _, _]) _
  refine q_is rfl rfl (does_move (u := (.tuple #[(.slice p43 ((ptL L_ctr L_rad rnd).length) q44), (Bo (ptOk L_ctr L_rad rnd))])) (ev rfl)) (by dsimp only [List.set]; try rfl) ?_
  refine q_is rfl rfl (does_extract (vs := #[(.slice p43 ((ptL L_ctr L_rad rnd).length) q44), (Bo (ptOk L_ctr L_rad rnd))]) (u := (.slice p43 ((ptL L_ctr L_rad rnd).length) q44)) (ev rfl) rfl) (by dsimp only [List.set]; try rfl) ?_
  refine q_is rfl rfl (does_extract (vs := #[(.slice p43 ((ptL L_ctr L_rad rnd).length) q44), (Bo (ptOk L_ctr L_rad rnd))]) (u := (Bo (ptOk L_ctr L_rad rnd))) (ev rfl) rfl) (by dsimp only [List.set]; try rfl) ?_
  refine q_is rfl rfl (does_assign (u := (.slice p43 ((ptL L_ctr L_rad rnd).length) q44)) (ev rfl)) (by dsimp only [List.set]; try rfl) ?_
  refine q_is rfl rfl (does_assign (u := (Bo (ptOk L_ctr L_rad rnd))) (ev rfl)) (by dsimp only [List.set]; try rfl) ?_
  refine wpList_nil (hK17 _ _ ?_)
  refine wp_seq_k fun K45 hK45 => ?_
  refine wp_region_lit ?_
  refine q_is rfl rfl (does_move (u := (.slice p_ctr L_ctr.length q_ctr)) (ev rfl)) (by dsimp only [List.set]; try rfl) ?_
  refine seqd rfl rfl (does_call (args := #[(.slice p_ctr L_ctr.length q_ctr)]) cal23 (evs rfl) (c_laws_toVectorS (.slice p_ctr L_ctr.length q_ctr) L_ctr _ (Sl.ext hv_ctr RV3.mono X42) (by omega))) ?_; rintro _ w47 ⟨E46, ⟨y49, Lw50, rfl, hh48, hw51⟩⟩
  have X52 := Ext.gr X42 E46
  obtain ⟨p53, q54, rfl⟩ := Sl.shape hh48.get
  have hw55 : WL 3 w39.heap.size w47 Lw50 (.slice p53 L_ctr.length q54) L_ctr.length := hw51
  show wpList _ _ _ _ (fr [_, _, _, _, _, _, _, _, _, _, _, _, _, _, _, _, _, _, _, _, _, _, _, _, _, _, _, _, _, _, _, _, _, _, _, _, _, _, _, _, _, _, _, _, _, _, _, _, _, _, _, _, _, _, _, _, _, _, _, _, _, _, _, _, _, _, _, _, _, _, _, _, _, _, _, _, _, _, _, _, _, _, _, _, _, _, _, _, _, _, _, _, _, _, _, _, _, _, _, _, _, _, _, _, _, _, _, _, _, _, _, _, _, _, _, _, _, _, _, _, _, _]) _
  refine q_is rfl rfl (does_assign (u := (.slice p53 L_ctr.length q54)) (ev rfl)) (by dsimp only [List.set]; try rfl) ?_
  refine wpList_nil (hK45 _ _ ?_)
  refine wp_seq_k fun K56 hK56 => ?_
  refine wp_region_lit ?_
  refine q_is rfl rfl (does_move (u := (.slice p_rad L_rad.length q_rad)) (ev rfl)) (by dsimp only [List.set]; try rfl) ?_
  refine seqd rfl rfl (does_call (args := #[(.slice p_rad L_rad.length q_rad)]) cal24 (evs rfl) (c_laws_toFloat32S (.slice p_rad L_rad.length q_rad) L_rad _ (Sl.ext hv_rad RF.mono X52) (by omega))) ?_; rintro _ w58 ⟨E57, ⟨y60, Lw61, rfl, hh59, hw62⟩⟩
  have X63 := Ext.gr X52 E57
  obtain ⟨p64, q65, rfl⟩ := Sl.shape hh59.get
  have hw66 : WL 1 w47.heap.size w58 Lw61 (.slice p64 L_rad.length q65) L_rad.length := hw62
  show wpList _ _ _ _ (fr [_, _, _, _, _, _, _, _, _, _, _, _, _, _, _, _, _, _, _, _, _, _, _, _, _, _, _, _, _, _, _, _, _, _, _, _, _, _, _, _, _, _, _, _, _, _, _, _, _, _, _, _, _, _, _, _, _, _, _, _, _, _, _, _, _, _, _, _, _, _, _, _, _, _, _, _, _, _, _, _, _, _, _, _, _, _, _, _, _, _, _, _, _, _, _, _, _, _, _, _, _, _, _, _, _, _, _, _, _, _, _, _, _, _, _, _, _, _, _, _, _, _]) _
  refine q_is rfl rfl (does_assign (u := (.slice p64 L_rad.length q65)) (ev rfl)) (by dsimp only [List.set]; try rfl) ?_
  refine wpList_nil (hK56 _ _ ?_)
  refine wp_seq_k fun K67 hK67 => ?_
  refine wp_region_lit ?_
  refine q_is rfl rfl (does_move (u := (.slice p53 L_ctr.length q54)) (ev rfl)) (by dsimp only [List.set]; try rfl) ?_
  refine q_is rfl rfl (does_move (u := (.slice p64 L_rad.length q65)) (ev rfl)) (by dsimp only [List.set]; try rfl) ?_
  refine q_is rfl rfl (does_move (u := (Iv rnd)) (ev rfl)) (by dsimp only [List.set]; try rfl) ?_
  refine seqd rfl rfl (does_call (args := #[(.slice p53 L_ctr.length q54), (.slice p64 L_rad.length q65), (Iv rnd)]) cal25 (evs rfl) (c_impl_PartBalls (.slice p53 L_ctr.length q54) L_ctr (.slice p64 L_rad.length q65) L_rad rnd _ (hh48 _ ((Same.refl _ _).ext E57)) hh59.get)) ?_; rintro _ w69 ⟨E68, ⟨y71, Lw72, rfl, hh70, hw73⟩⟩
  have X74 := Ext.gr X63 E68
  obtain ⟨p75, q76, rfl⟩ := Sl.shape hh70.get
  have hw77 : WL 3 w58.heap.size w69 Lw72 (.slice p75 ((ptL L_ctr L_rad rnd).length) q76) (ptL L_ctr L_rad rnd).length := hw73
  show wpList _ _ _ _ (fr [_, _, _, _, _, _, _, _, _, _, _, _, _, _, _, _, _, _, _, _, _, _, _, _, _, _, _, _, _, _, _, _, _, _, _, _, _, _, _, _, _, _, _, _, _, _, _, _, _, _, _, _, _, _, _, _, _, _, _, _, _, _, _, _, _, _, _, _, _, _, _, _, _, _, _, _, _, _, _, _, _, _, _, _, _, _, _, _, _, _, _, _, _, _, _, _, _, _, _, _, _, _, _, _, _, _, _, _, _, _, _, _, _, _, _, _, _, _, _, _, _, _]) _
  refine q_is rfl rfl (does_move (u := (.tuple #[(.slice p75 ((ptL L_ctr L_rad rnd).length) q76), (Bo (ptOk L_ctr L_rad rnd))])) (ev rfl)) (by dsimp only [List.set]; try rfl) ?_
  refine q_is rfl rfl (does_extract (vs := #[(.slice p75 ((ptL L_ctr L_rad rnd).length) q76), (Bo (ptOk L_ctr L_rad rnd))]) (u := (.slice p75 ((ptL L_ctr L_rad rnd).length) q76)) (ev rfl) rfl) (by dsimp only [List.set]; try rfl) ?_
  refine q_is rfl rfl (does_extract (vs := #[(.slice p75 ((ptL L_ctr L_rad rnd).length) q76), (Bo (ptOk L_ctr L_rad rnd))]) (u := (Bo (ptOk L_ctr L_rad rnd))) (ev rfl) rfl) (by dsimp only [List.set]; try rfl) ?_
  refine q_is rfl rfl (does_assign (u := (.slice p75 ((ptL L_ctr L_rad rnd).length) q76)) (ev rfl)) (by dsimp only [List.set]; try rfl) ?_
  refine q_is rfl rfl (does_assign (u := (Bo (ptOk L_ctr L_rad rnd))) (ev rfl)) (by dsimp only [List.set]; try rfl) ?_
  refine wpList_nil (hK67 _ _ ?_)
  refine wp_seq_k fun K78 hK78 => ?_
  refine wp_seq_k fun K79 hK79 => ?_
  obtain ⟨β1, hβ1⟩ : ∃ b : Bool, b = (sameX sameV (ptL L_ctr L_rad rnd) (ptL L_ctr L_rad rnd)) := ⟨_, rfl⟩
  obtain ⟨β2, hβ2⟩ : ∃ b : Bool, b = ((ptOk L_ctr L_rad rnd) != (ptOk L_ctr L_rad rnd)) := ⟨_, rfl⟩
  refine region_text (
    [Fact.pure [] (fun v => v = (.slice p75 ((ptL L_ctr L_rad rnd).length) q76)),
    Fact.pure [] (fun v => v = (.slice p43 ((ptL L_ctr L_rad rnd).length) q44)),
    Fact.pure [47, 48] (fun v => v = (Bo β1)),
    Fact.pure [49] (fun v => v = (Bo (!β1))),
    Fact.pure [50] (fun v => v = (Bo (!β1))),
    Fact.pure [51] (fun v => (!β1) = false → v = (Bo (ptOk L_ctr L_rad rnd))),
    Fact.pure [51] (fun v => (!β1) = false → v = (Bo (ptOk L_ctr L_rad rnd))),
    Fact.pure [52, 53, 51] (fun v => (!β1) = false → v = (Bo β2)),
    Fact.pure [51, 54] (fun v => v = (Bo ((!β1) || β2)))]) (by simp [Fact.pure, Fact.mem]) ?_
  refine RW_d _ rfl (fun v => by dsimp only [List.set]; try rfl) (fun u hu hF => ?_) (fun v80 => ?_)
  · clear hF
    refine doesG_un rfl ?_
    refine (does_move (u := (.slice p75 ((ptL L_ctr L_rad rnd).length) q76)) (ev rfl)).mono ?_; rintro _ _ ⟨rfl, rfl⟩
    exact ⟨rfl, Ext.refl _⟩
  refine RW_d _ rfl (fun v => by dsimp only [List.set]; try rfl) (fun u hu hF => ?_) (fun v81 => ?_)
  · clear hF
    refine doesG_un rfl ?_
    refine (does_move (u := (.slice p43 ((ptL L_ctr L_rad rnd).length) q44)) (ev rfl)).mono ?_; rintro _ _ ⟨rfl, rfl⟩
    exact ⟨rfl, Ext.refl _⟩
  refine RW_d _ rfl (fun v => by dsimp only [List.set]; try rfl) (fun u hu hF => ?_) (fun v82 => ?_)
  · have h47_ : v80 = (.slice p75 ((ptL L_ctr L_rad rnd).length) q76) := hF.1
    have h48_ : v81 = (.slice p43 ((ptL L_ctr L_rad rnd).length) q44) := hF.2.1
    clear hF
    refine doesG_un rfl ?_
    obtain rfl := h47_
    obtain rfl := h48_
    refine (does_call (args := #[(.slice p75 ((ptL L_ctr L_rad rnd).length) q76), (.slice p43 ((ptL L_ctr L_rad rnd).length) q44)]) cal26 (evs rfl) (c_laws_eqVectorS (.slice p75 ((ptL L_ctr L_rad rnd).length) q76) (ptL L_ctr L_rad rnd) (.slice p43 ((ptL L_ctr L_rad rnd).length) q44) (ptL L_ctr L_rad rnd) _ (Sl.ext hh70.get RV3.mono hu) (Sl.ext (hh40 _ ((((Same.refl _ _).ext E46).ext E57).ext E68)) RV3.mono hu))).mono ?_; rintro v u' ⟨hx, hv⟩
    exact ⟨hv.trans (by simp only [hβ1]), hx⟩
  refine RW_d _ rfl (fun v => by dsimp only [List.set]; try rfl) (fun u hu hF => ?_) (fun v83 => ?_)
  · have h49_ : v82 = (Bo β1) := hF.1
    clear hF
    refine doesG_un rfl ?_
    obtain rfl := h49_
    refine (does_not (ev rfl)).mono ?_; rintro _ _ ⟨rfl, rfl⟩
    exact ⟨rfl, Ext.refl _⟩
  refine RW_d _ rfl (fun v => by dsimp only [List.set]; try rfl) (fun u hu hF => ?_) (fun v84 => ?_)
  · have h50_ : v83 = (Bo (!β1)) := hF.1
    clear hF
    refine doesG_un rfl ?_
    obtain rfl := h50_
    refine (does_move (u := (Bo (!β1))) (ev rfl)).mono ?_; rintro _ _ ⟨rfl, rfl⟩
    exact ⟨rfl, Ext.refl _⟩
  refine RW_d _ rfl (fun v => by dsimp only [List.set]; try rfl) (fun u hu hF => ?_) (fun v85 => ?_)
  · have h51_ : v84 = (Bo (!β1)) := hF.1
    clear hF
    obtain rfl := h51_
    refine doesG_g (b := (!β1)) rfl (yld rfl rfl) (fun hg1 => ?_) (fun hc => ⟨fun hg1 => absurd hg1 hc, Ext.refl _⟩)
    refine (does_move (u := (Bo (ptOk L_ctr L_rad rnd))) (ev rfl)).mono ?_; rintro _ _ ⟨rfl, rfl⟩
    exact ⟨fun _ => rfl, Ext.refl _⟩
  refine RW_d _ rfl (fun v => by dsimp only [List.set]; try rfl) (fun u hu hF => ?_) (fun v86 => ?_)
  · have h51_ : v84 = (Bo (!β1)) := hF.1
    clear hF
    obtain rfl := h51_
    refine doesG_g (b := (!β1)) rfl (yld rfl rfl) (fun hg1 => ?_) (fun hc => ⟨fun hg1 => absurd hg1 hc, Ext.refl _⟩)
    refine (does_move (u := (Bo (ptOk L_ctr L_rad rnd))) (ev rfl)).mono ?_; rintro _ _ ⟨rfl, rfl⟩
    exact ⟨fun _ => rfl, Ext.refl _⟩
  refine RW_d _ rfl (fun v => by dsimp only [List.set]; try rfl) (fun u hu hF => ?_) (fun v87 => ?_)
  · have h52_ : (!β1) = false → v85 = (Bo (ptOk L_ctr L_rad rnd)) := hF.1
    have h53_ : (!β1) = false → v86 = (Bo (ptOk L_ctr L_rad rnd)) := hF.2.1
    have h51_ : v84 = (Bo (!β1)) := hF.2.2.1
    clear hF
    obtain rfl := h51_
    refine doesG_g (b := (!β1)) rfl (yld rfl rfl) (fun hg1 => ?_) (fun hc => ⟨fun hg1 => absurd hg1 hc, Ext.refl _⟩)
    obtain rfl := h52_ hg1
    obtain rfl := h53_ hg1
    refine (does_bne (p := (ptOk L_ctr L_rad rnd)) (q := (ptOk L_ctr L_rad rnd)) Try.underlying4 (ev rfl) (ev rfl)).mono ?_; rintro _ _ ⟨rfl, rfl⟩
    exact ⟨fun _ => (by first | rfl | (show _ = _; simp only [hβ2]; done) | (show _ = _; simp only [hβ2]; rfl)), Ext.refl _⟩
  refine RW_d _ rfl (fun v => by dsimp only [List.set]; try rfl) (fun u hu hF => ?_) (fun v88 => ?_)
  · have h51_ : v84 = (Bo (!β1)) := hF.1
    have h54_ : (!β1) = false → v87 = (Bo β2) := hF.2.1
    clear hF
    refine doesG_un rfl ?_
    skip
    obtain rfl := h51_
    refine (does_pick (b := (!β1)) (u := (Bo true)) (v := v87) (ev rfl) (ev rfl) (ev rfl)).mono ?_; rintro _ _ ⟨rfl, rfl⟩; refine ⟨?_, Ext.refl _⟩; skip
    cases hbb : (!β1)
    all_goals first | (show _ = _; simp only [↓reduceIte, Bool.true_and, Bool.false_and, Bool.true_or, Bool.false_or, Bool.false_eq_true]; done) | (have e_ := h54_ hbb; subst e_; show _ = _; simp only [↓reduceIte, Bool.true_and, Bool.false_and, Bool.true_or, Bool.false_or, Bool.false_eq_true]; done) | rfl | (have e_ := h54_ hbb; subst e_; rfl) | (simp [hbb] at h54_ ⊢; first | done | rfl | (subst h54_; rfl) | simp_all) | (simp [hbb] at h54_ ⊢; done)
  refine RW_fin ?_; intro w89 E90 hP91
  obtain ⟨⟨⟨⟨⟨⟨⟨⟨⟨-, -⟩, -⟩, -⟩, -⟩, -⟩, -⟩, -⟩, -⟩, q92⟩ := hP91
  have X93 := Ext.gr X74 E90
  have q92 : v88 = (Bo ((!β1) || β2)) := q92
  obtain rfl := q92
  show wpList _ _ _ _ (fr [_, _, _, _, _, _, _, _, _, _, _, _, _, _, _, _, _, _, _, _, _, _, _, _, _, _, _, _, _, _, _, _, _, _, _, _, _, _, _, _, _, _, _, _, _, _, _, _, _, _, _, _, _, _, _, _, _, _, _, _, _, _, _, _, _, _, _, _, _, _, _, _, _, _, _, _, _, _, _, _, _, _, _, _, _, _, _, _, _, _, _, _, _, _, _, _, _, _, _, _, _, _, _, _, _, _, _, _, _, _, _, _, _, _, _, _, _, _, _, _, _, _]) _
  refine wpList_nil (hK79 _ _ ?_)
  refine wp_cond_split (t := (!β1) || β2) (ev rfl) (fun c94 => ?_) (fun c94 => ?_)
  · have c94' := c94
    (try simp only [hβ1, hβ2, sameX_selfV, sameL_self, bne_self_eq_false] at c94')
    (try simp only [hβ1, hβ2] at c94')
    (try simp only [icmp, Bool.and_eq_true, Bool.or_eq_true, Bool.and_eq_false_iff, Bool.or_eq_false_iff, Bool.not_eq_true', Bool.not_eq_false', decide_eq_true_eq, decide_eq_false_iff_not, beq_iff_eq, bne_iff_ne, beq_eq_false_iff_ne, bne_eq_false_iff_eq] at c94')
    refine wp_seq_k fun K95 hK95 => ?_
    refine wp_region_lit ?_
    refine q_is rfl rfl (does_assign (u := (Bo false)) (ev rfl)) (by dsimp only [List.set]; try rfl) ?_
    refine wpList_nil (hK95 _ _ ?_)
    refine wp_ret ?_
    dsimp only [Exit.then, Exit.inBlock]
    refine ret_val (v := (Bo false)) (res_T rfl (slot rfl)) X93 ?_
    try simp only [hβ1, hβ2, sameX_selfV, sameL_self, bne_self_eq_false] at c4 c15 c94
    have x96 : true = false := by first | with_reducible rfl | (exfalso; omega) | (exfalso; simp only [mkL_len] at * <;> omega) | (exfalso; rcases c94' with ((hh | hh) | hh) | hh <;> first | omega | (exact Bool.noConfusion hh) | (exact absurd rfl hh)) | (exfalso; rcases c94' with (hh | hh) | hh <;> first | omega | (exact Bool.noConfusion hh)) | (exfalso; rcases c94' with hh | hh <;> first | omega | (exact Bool.noConfusion hh)) | (simp only [sameX_selfV, sameL_self, bne_self_eq_false, hβ1, hβ2, c4, c15, c94]; done) | (simp [sameX_selfV, sameL_self, bne_self_eq_false, hβ1, hβ2, c4, c15, c94]; done) | (simp_all; done) | (exfalso; simp_all; done)
    exact (by first | with_reducible rfl | rw [x96] | rfl)
  have c94' := c94
  (try simp only [hβ1, hβ2, sameX_selfV, sameL_self, bne_self_eq_false] at c94')
  (try simp only [hβ1, hβ2] at c94')
  (try simp only [icmp, Bool.and_eq_true, Bool.or_eq_true, Bool.and_eq_false_iff, Bool.or_eq_false_iff, Bool.not_eq_true', Bool.not_eq_false', decide_eq_true_eq, decide_eq_false_iff_not, beq_iff_eq, bne_iff_ne, beq_eq_false_iff_ne, bne_eq_false_iff_eq] at c94')
  refine wp_skip (hK78 _ _ ?_)
  refine wp_seq_k fun K97 hK97 => ?_
  refine wp_seq_k fun K98 hK98 => ?_
  refine wp_region_lit ?_
  refine q_is rfl rfl (does_move (u := (.slice p53 L_ctr.length q54)) (ev rfl)) (by dsimp only [List.set]; try rfl) ?_
  refine q_is rfl rfl (does_move (u := (.slice p_ctr L_ctr.length q_ctr)) (ev rfl)) (by dsimp only [List.set]; try rfl) ?_
  refine seqd rfl rfl (does_call (args := #[(.slice p_ctr L_ctr.length q_ctr)]) cal23 (evs rfl) (c_laws_toVectorS (.slice p_ctr L_ctr.length q_ctr) L_ctr _ (Sl.ext hv_ctr RV3.mono X93) (by omega))) ?_; rintro _ w100 ⟨E99, ⟨y102, Lw103, rfl, hh101, hw104⟩⟩
  have X105 := Ext.gr X93 E99
  obtain ⟨p106, q107, rfl⟩ := Sl.shape hh101.get
  have hw108 : WL 3 w89.heap.size w100 Lw103 (.slice p106 L_ctr.length q107) L_ctr.length := hw104
  show wpList _ _ _ _ (fr [_, _, _, _, _, _, _, _, _, _, _, _, _, _, _, _, _, _, _, _, _, _, _, _, _, _, _, _, _, _, _, _, _, _, _, _, _, _, _, _, _, _, _, _, _, _, _, _, _, _, _, _, _, _, _, _, _, _, _, _, _, _, _, _, _, _, _, _, _, _, _, _, _, _, _, _, _, _, _, _, _, _, _, _, _, _, _, _, _, _, _, _, _, _, _, _, _, _, _, _, _, _, _, _, _, _, _, _, _, _, _, _, _, _, _, _, _, _, _, _, _, _]) _
  refine seqd rfl rfl (does_call (args := #[(.slice p53 L_ctr.length q54), (.slice p106 L_ctr.length q107)]) cal26 (evs rfl) (c_laws_eqVectorS (.slice p53 L_ctr.length q54) L_ctr (.slice p106 L_ctr.length q107) L_ctr _ (hh48 _ (((((Same.refl _ _).ext E57).ext E68).ext E90).ext E99)) hh101.get)) ?_; rintro _ w110 ⟨E109, rfl⟩
  have X111 := Ext.gr X105 E109
  show wpList _ _ _ _ (fr [_, _, _, _, _, _, _, _, _, _, _, _, _, _, _, _, _, _, _, _, _, _, _, _, _, _, _, _, _, _, _, _, _, _, _, _, _, _, _, _, _, _, _, _, _, _, _, _, _, _, _, _, _, _, _, _, _, _, _, _, _, _, _, _, _, _, _, _, _, _, _, _, _, _, _, _, _, _, _, _, _, _, _, _, _, _, _, _, _, _, _, _, _, _, _, _, _, _, _, _, _, _, _, _, _, _, _, _, _, _, _, _, _, _, _, _, _, _, _, _, _, _]) _
  refine q_is rfl rfl (does_not (ev rfl)) (by dsimp only [List.set]; try rfl) ?_
  refine wpList_nil (hK98 _ _ ?_)
  refine wp_cond_split (t := !(sameX sameV L_ctr L_ctr)) (ev rfl) (fun c112 => ?_) (fun c112 => ?_)
  · rw [Bool.not_eq_true'] at c112
    have c112' := c112
    (try simp only [hβ1, hβ2, sameX_selfV, sameL_self, bne_self_eq_false] at c112')
    (try simp only [hβ1, hβ2] at c112')
    (try simp only [icmp, Bool.and_eq_true, Bool.or_eq_true, Bool.and_eq_false_iff, Bool.or_eq_false_iff, Bool.not_eq_true', Bool.not_eq_false', decide_eq_true_eq, decide_eq_false_iff_not, beq_iff_eq, bne_iff_ne, beq_eq_false_iff_ne, bne_eq_false_iff_eq] at c112')
    refine wp_seq_k fun K113 hK113 => ?_
    refine wp_region_lit ?_
    refine q_is rfl rfl (does_assign (u := (Bo false)) (ev rfl)) (by dsimp only [List.set]; try rfl) ?_
    refine wpList_nil (hK113 _ _ ?_)
    refine wp_ret ?_
    dsimp only [Exit.then, Exit.inBlock]
    refine ret_val (v := (Bo false)) (res_T rfl (slot rfl)) X111 ?_
    try simp only [hβ1, hβ2, sameX_selfV, sameL_self, bne_self_eq_false] at c4 c15 c94 c112
    have x114 : true = false := by first | with_reducible rfl | (exfalso; omega) | (exfalso; simp only [mkL_len] at * <;> omega) | (exfalso; rcases c112' with ((hh | hh) | hh) | hh <;> first | omega | (exact Bool.noConfusion hh) | (exact absurd rfl hh)) | (exfalso; rcases c112' with (hh | hh) | hh <;> first | omega | (exact Bool.noConfusion hh)) | (exfalso; rcases c112' with hh | hh <;> first | omega | (exact Bool.noConfusion hh)) | (simp only [sameX_selfV, sameL_self, bne_self_eq_false, hβ1, hβ2, c4, c15, c94, c112]; done) | (simp [sameX_selfV, sameL_self, bne_self_eq_false, hβ1, hβ2, c4, c15, c94, c112]; done) | (simp_all; done) | (exfalso; simp_all; done)
    exact (by first | with_reducible rfl | rw [x114] | rfl)
  rw [Bool.not_eq_false'] at c112
  have c112' := c112
  (try simp only [hβ1, hβ2, sameX_selfV, sameL_self, bne_self_eq_false] at c112')
  (try simp only [hβ1, hβ2] at c112')
  (try simp only [icmp, Bool.and_eq_true, Bool.or_eq_true, Bool.and_eq_false_iff, Bool.or_eq_false_iff, Bool.not_eq_true', Bool.not_eq_false', decide_eq_true_eq, decide_eq_false_iff_not, beq_iff_eq, bne_iff_ne, beq_eq_false_iff_ne, bne_eq_false_iff_eq] at c112')
  refine wp_skip (hK97 _ _ ?_)
  refine wp_seq_k fun K115 hK115 => ?_
  refine wp_seq_k fun K116 hK116 => ?_
  refine wp_region_lit ?_
  refine q_is rfl rfl (does_move (u := (.slice p64 L_rad.length q65)) (ev rfl)) (by dsimp only [List.set]; try rfl) ?_
  refine q_is rfl rfl (does_move (u := (.slice p_rad L_rad.length q_rad)) (ev rfl)) (by dsimp only [List.set]; try rfl) ?_
  refine seqd rfl rfl (does_call (args := #[(.slice p_rad L_rad.length q_rad)]) cal24 (evs rfl) (c_laws_toFloat32S (.slice p_rad L_rad.length q_rad) L_rad _ (Sl.ext hv_rad RF.mono X111) (by omega))) ?_; rintro _ w118 ⟨E117, ⟨y120, Lw121, rfl, hh119, hw122⟩⟩
  have X123 := Ext.gr X111 E117
  obtain ⟨p124, q125, rfl⟩ := Sl.shape hh119.get
  have hw126 : WL 1 w110.heap.size w118 Lw121 (.slice p124 L_rad.length q125) L_rad.length := hw122
  show wpList _ _ _ _ (fr [_, _, _, _, _, _, _, _, _, _, _, _, _, _, _, _, _, _, _, _, _, _, _, _, _, _, _, _, _, _, _, _, _, _, _, _, _, _, _, _, _, _, _, _, _, _, _, _, _, _, _, _, _, _, _, _, _, _, _, _, _, _, _, _, _, _, _, _, _, _, _, _, _, _, _, _, _, _, _, _, _, _, _, _, _, _, _, _, _, _, _, _, _, _, _, _, _, _, _, _, _, _, _, _, _, _, _, _, _, _, _, _, _, _, _, _, _, _, _, _, _, _]) _
  refine seqd rfl rfl (does_call (args := #[(.slice p64 L_rad.length q65), (.slice p124 L_rad.length q125)]) cal27 (evs rfl) (c_laws_eqFloat32S (.slice p64 L_rad.length q65) L_rad (.slice p124 L_rad.length q125) L_rad _ (hh59 _ ((((((Same.refl _ _).ext E68).ext E90).ext E99).ext E109).ext E117)) hh119.get)) ?_; rintro _ w128 ⟨E127, rfl⟩
  have X129 := Ext.gr X123 E127
  show wpList _ _ _ _ (fr [_, _, _, _, _, _, _, _, _, _, _, _, _, _, _, _, _, _, _, _, _, _, _, _, _, _, _, _, _, _, _, _, _, _, _, _, _, _, _, _, _, _, _, _, _, _, _, _, _, _, _, _, _, _, _, _, _, _, _, _, _, _, _, _, _, _, _, _, _, _, _, _, _, _, _, _, _, _, _, _, _, _, _, _, _, _, _, _, _, _, _, _, _, _, _, _, _, _, _, _, _, _, _, _, _, _, _, _, _, _, _, _, _, _, _, _, _, _, _, _, _, _]) _
  refine q_is rfl rfl (does_not (ev rfl)) (by dsimp only [List.set]; try rfl) ?_
  refine wpList_nil (hK116 _ _ ?_)
  refine wp_cond_split (t := !(sameL L_rad L_rad)) (ev rfl) (fun c130 => ?_) (fun c130 => ?_)
  · rw [Bool.not_eq_true'] at c130
    have c130' := c130
    (try simp only [hβ1, hβ2, sameX_selfV, sameL_self, bne_self_eq_false] at c130')
    (try simp only [hβ1, hβ2] at c130')
    (try simp only [icmp, Bool.and_eq_true, Bool.or_eq_true, Bool.and_eq_false_iff, Bool.or_eq_false_iff, Bool.not_eq_true', Bool.not_eq_false', decide_eq_true_eq, decide_eq_false_iff_not, beq_iff_eq, bne_iff_ne, beq_eq_false_iff_ne, bne_eq_false_iff_eq] at c130')
    refine wp_seq_k fun K131 hK131 => ?_
    refine wp_region_lit ?_
    refine q_is rfl rfl (does_assign (u := (Bo false)) (ev rfl)) (by dsimp only [List.set]; try rfl) ?_
    refine wpList_nil (hK131 _ _ ?_)
    refine wp_ret ?_
    dsimp only [Exit.then, Exit.inBlock]
    refine ret_val (v := (Bo false)) (res_T rfl (slot rfl)) X129 ?_
    try simp only [hβ1, hβ2, sameX_selfV, sameL_self, bne_self_eq_false] at c4 c15 c94 c112 c130
    have x132 : true = false := by first | with_reducible rfl | (exfalso; omega) | (exfalso; simp only [mkL_len] at * <;> omega) | (exfalso; rcases c130' with ((hh | hh) | hh) | hh <;> first | omega | (exact Bool.noConfusion hh) | (exact absurd rfl hh)) | (exfalso; rcases c130' with (hh | hh) | hh <;> first | omega | (exact Bool.noConfusion hh)) | (exfalso; rcases c130' with hh | hh <;> first | omega | (exact Bool.noConfusion hh)) | (simp only [sameX_selfV, sameL_self, bne_self_eq_false, hβ1, hβ2, c4, c15, c94, c112, c130]; done) | (simp [sameX_selfV, sameL_self, bne_self_eq_false, hβ1, hβ2, c4, c15, c94, c112, c130]; done) | (simp_all; done) | (exfalso; simp_all; done)
    exact (by first | with_reducible rfl | rw [x132] | rfl)
  rw [Bool.not_eq_false'] at c130
  have c130' := c130
  (try simp only [hβ1, hβ2, sameX_selfV, sameL_self, bne_self_eq_false] at c130')
  (try simp only [hβ1, hβ2] at c130')
  (try simp only [icmp, Bool.and_eq_true, Bool.or_eq_true, Bool.and_eq_false_iff, Bool.or_eq_false_iff, Bool.not_eq_true', Bool.not_eq_false', decide_eq_true_eq, decide_eq_false_iff_not, beq_iff_eq, bne_iff_ne, beq_eq_false_iff_ne, bne_eq_false_iff_eq] at c130')
  refine wp_skip (hK115 _ _ ?_)
  refine wp_seq_k fun K133 hK133 => ?_
  refine wp_region_lit ?_
  refine q_is rfl rfl (does_assign (u := (Iv 1)) (ev rfl)) (by dsimp only [List.set]; try rfl) ?_
  refine wpList_nil (hK133 _ _ ?_)
  refine wp_seq_k fun K134 hK134 => ?_
  refine wp_region_lit ?_
  refine q_is rfl rfl (does_move (u := (.slice p53 L_ctr.length q54)) (ev rfl)) (by dsimp only [List.set]; try rfl) ?_
  refine q_is rfl rfl (does_move (u := (Iv 1)) (ev rfl)) (by dsimp only [List.set]; try rfl) ?_
  refine seqd rfl rfl (does_callK (args := #[(.slice p53 L_ctr.length q54), (Iv 1)]) cal28 (evs rfl) (c_laws_markVectorS (.slice p53 L_ctr.length q54) L_ctr.length Lw50 w39.heap.size 1 _ (hw55.same ((((((((Same.refl _ _).ext E57).ext E68).ext E90).ext E99).ext E109).ext E117).ext E127)) (by omega) (by first | omega | omega))) ?_; rintro _ w135 ⟨K136, rfl, hM137⟩
  have X138 := Below.kl X129 K136 (fun c hc => Nat.le_trans (Below.size (Ext.gr (Ext.gr (Ext.gr (Ext.gr (Ext.refl _) E8) E18) E28) E38)) (hw55.1 c hc).1) (Nat.le_refl _)
  show wpList _ _ _ _ (fr [_, _, _, _, _, _, _, _, _, _, _, _, _, _, _, _, _, _, _, _, _, _, _, _, _, _, _, _, _, _, _, _, _, _, _, _, _, _, _, _, _, _, _, _, _, _, _, _, _, _, _, _, _, _, _, _, _, _, _, _, _, _, _, _, _, _, _, _, _, _, _, _, _, _, _, _, _, _, _, _, _, _, _, _, _, _, _, _, _, _, _, _, _, _, _, _, _, _, _, _, _, _, _, _, _, _, _, _, _, _, _, _, _, _, _, _, _, _, _, _, _, _]) _
  refine q_is rfl rfl (does_assign (u := (Iv (1 + (L_ctr.length : Int) * 3))) (ev rfl)) (by dsimp only [List.set]; try rfl) ?_
  refine wpList_nil (hK134 _ _ ?_)
  refine wp_seq_k fun K141 hK141 => ?_
  refine wp_region_lit ?_
  refine q_is rfl rfl (does_move (u := (.slice p64 L_rad.length q65)) (ev rfl)) (by dsimp only [List.set]; try rfl) ?_
  refine q_is rfl rfl (does_move (u := (Iv (1 + (L_ctr.length : Int) * 3))) (ev rfl)) (by dsimp only [List.set]; try rfl) ?_
  refine seqd rfl rfl (does_callK (args := #[(.slice p64 L_rad.length q65), (Iv (1 + (L_ctr.length : Int) * 3))]) cal29 (evs rfl) (c_laws_markFloat32S (.slice p64 L_rad.length q65) L_rad.length Lw61 w47.heap.size (1 + (L_ctr.length : Int) * 3) _ (hw66.same ((((((((Same.refl _ _).ext E68).ext E90).ext E99).ext E109).ext E117).ext E127).kl K136 (fun c hc => .inl (Nat.lt_of_lt_of_le (hw55.1 c hc).2 (Nat.le_refl _))))) (by omega) (by first | omega | omega))) ?_; rintro _ w142 ⟨K143, rfl, hM144⟩
  have X145 := Below.kl X138 K143 (fun c hc => Nat.le_trans (Below.size (Ext.gr (Ext.gr (Ext.gr (Ext.gr (Ext.gr (Ext.refl _) E8) E18) E28) E38) E46)) (hw66.1 c hc).1) (Nat.le_refl _)
  show wpList _ _ _ _ (fr [_, _, _, _, _, _, _, _, _, _, _, _, _, _, _, _, _, _, _, _, _, _, _, _, _, _, _, _, _, _, _, _, _, _, _, _, _, _, _, _, _, _, _, _, _, _, _, _, _, _, _, _, _, _, _, _, _, _, _, _, _, _, _, _, _, _, _, _, _, _, _, _, _, _, _, _, _, _, _, _, _, _, _, _, _, _, _, _, _, _, _, _, _, _, _, _, _, _, _, _, _, _, _, _, _, _, _, _, _, _, _, _, _, _, _, _, _, _, _, _, _, _]) _
  refine q_is rfl rfl (does_assign (u := (Iv ((1 + (L_ctr.length : Int) * 3) + (L_rad.length : Int) * 1))) (ev rfl)) (by dsimp only [List.set]; try rfl) ?_
  refine wpList_nil (hK141 _ _ ?_)
  refine wp_seq_k fun K148 hK148 => ?_
  refine wp_seq_k fun K149 hK149 => ?_
  obtain ⟨β3, hβ3⟩ : ∃ b : Bool, b = (icmp .lss ((1 + (L_ctr.length : Int) * 3) + (L_rad.length : Int) * 1) 0) := ⟨_, rfl⟩
  obtain ⟨β4, hβ4⟩ : ∃ b : Bool, b = (sameX sameV (ptL L_ctr L_rad rnd) (ptL L_ctr L_rad rnd)) := ⟨_, rfl⟩
  obtain ⟨β5, hβ5⟩ : ∃ b : Bool, b = ((ptOk L_ctr L_rad rnd) != (ptOk L_ctr L_rad rnd)) := ⟨_, rfl⟩
  refine region_text (
    [Fact.pure [] (fun v => v = (Iv ((1 + (L_ctr.length : Int) * 3) + (L_rad.length : Int) * 1))),
    Fact.pure [72] (fun v => v = (Bo β3)),
    Fact.pure [73] (fun v => v = (Bo β3)),
    Fact.pure [74] (fun v => β3 = false → v = (.slice p75 ((ptL L_ctr L_rad rnd).length) q76)),
    Fact.pure [74] (fun v => β3 = false → v = (.slice p43 ((ptL L_ctr L_rad rnd).length) q44)),
    Fact.pure [75, 76, 74] (fun v => β3 = false → v = (Bo β4)),
    Fact.pure [77, 74] (fun v => β3 = false → v = (Bo (!β4))),
    Fact.pure [74, 78] (fun v => v = (Bo (β3 || (!β4)))),
    Fact.pure [79] (fun v => v = (Bo (β3 || (!β4)))),
    Fact.pure [80] (fun v => (β3 || (!β4)) = false → v = (Bo (ptOk L_ctr L_rad rnd))),
    Fact.pure [80] (fun v => (β3 || (!β4)) = false → v = (Bo (ptOk L_ctr L_rad rnd))),
    Fact.pure [81, 82, 80] (fun v => (β3 || (!β4)) = false → v = (Bo β5)),
    Fact.pure [80, 83] (fun v => v = (Bo ((β3 || (!β4)) || β5)))]) (by simp [Fact.pure, Fact.mem]) ?_
  refine RW_d _ rfl (fun v => by dsimp only [List.set]; try rfl) (fun u hu hF => ?_) (fun v150 => ?_)
  · clear hF
    refine doesG_un rfl ?_
    refine (does_move (u := (Iv ((1 + (L_ctr.length : Int) * 3) + (L_rad.length : Int) * 1))) (ev rfl)).mono ?_; rintro _ _ ⟨rfl, rfl⟩
    exact ⟨rfl, Ext.refl _⟩
  refine RW_d _ rfl (fun v => by dsimp only [List.set]; try rfl) (fun u hu hF => ?_) (fun v151 => ?_)
  · have h72_ : v150 = (Iv ((1 + (L_ctr.length : Int) * 3) + (L_rad.length : Int) * 1)) := hF.1
    clear hF
    refine doesG_un rfl ?_
    obtain rfl := h72_
    refine (does_icmp (p := (1 + (L_ctr.length : Int) * 3) + (L_rad.length : Int) * 1) (q := 0) (.inr (.inr (.inl rfl))) (ev rfl) (ev rfl)).mono ?_; rintro _ _ ⟨rfl, rfl⟩
    exact ⟨(by first | rfl | (show _ = _; simp only [hβ3]; done) | (show _ = _; simp only [hβ3]; rfl)), Ext.refl _⟩
  refine RW_d _ rfl (fun v => by dsimp only [List.set]; try rfl) (fun u hu hF => ?_) (fun v152 => ?_)
  · have h73_ : v151 = (Bo β3) := hF.1
    clear hF
    refine doesG_un rfl ?_
    obtain rfl := h73_
    refine (does_move (u := (Bo β3)) (ev rfl)).mono ?_; rintro _ _ ⟨rfl, rfl⟩
    exact ⟨rfl, Ext.refl _⟩
  refine RW_d _ rfl (fun v => by dsimp only [List.set]; try rfl) (fun u hu hF => ?_) (fun v153 => ?_)
  · have h74_ : v152 = (Bo β3) := hF.1
    clear hF
    obtain rfl := h74_
    refine doesG_g (b := β3) rfl (yld rfl rfl) (fun hg1 => ?_) (fun hc => ⟨fun hg1 => absurd hg1 hc, Ext.refl _⟩)
    refine (does_move (u := (.slice p75 ((ptL L_ctr L_rad rnd).length) q76)) (ev rfl)).mono ?_; rintro _ _ ⟨rfl, rfl⟩
    exact ⟨fun _ => rfl, Ext.refl _⟩
  refine RW_d _ rfl (fun v => by dsimp only [List.set]; try rfl) (fun u hu hF => ?_) (fun v154 => ?_)
  · have h74_ : v152 = (Bo β3) := hF.1
    clear hF
    obtain rfl := h74_
    refine doesG_g (b := β3) rfl (yld rfl rfl) (fun hg1 => ?_) (fun hc => ⟨fun hg1 => absurd hg1 hc, Ext.refl _⟩)
    refine (does_move (u := (.slice p43 ((ptL L_ctr L_rad rnd).length) q44)) (ev rfl)).mono ?_; rintro _ _ ⟨rfl, rfl⟩
    exact ⟨fun _ => rfl, Ext.refl _⟩
  refine RW_d _ rfl (fun v => by dsimp only [List.set]; try rfl) (fun u hu hF => ?_) (fun v155 => ?_)
  · have h75_ : β3 = false → v153 = (.slice p75 ((ptL L_ctr L_rad rnd).length) q76) := hF.1
    have h76_ : β3 = false → v154 = (.slice p43 ((ptL L_ctr L_rad rnd).length) q44) := hF.2.1
    have h74_ : v152 = (Bo β3) := hF.2.2.1
    clear hF
    obtain rfl := h74_
    refine doesG_g (b := β3) rfl (yld rfl rfl) (fun hg1 => ?_) (fun hc => ⟨fun hg1 => absurd hg1 hc, Ext.refl _⟩)
    obtain rfl := h75_ hg1
    obtain rfl := h76_ hg1
    refine (does_call (args := #[(.slice p75 ((ptL L_ctr L_rad rnd).length) q76), (.slice p43 ((ptL L_ctr L_rad rnd).length) q44)]) cal26 (evs rfl) (c_laws_eqVectorS (.slice p75 ((ptL L_ctr L_rad rnd).length) q76) (ptL L_ctr L_rad rnd) (.slice p43 ((ptL L_ctr L_rad rnd).length) q44) (ptL L_ctr L_rad rnd) _ (Sl.ext (hh70 _ ((((((((Same.refl _ _).ext E90).ext E99).ext E109).ext E117).ext E127).kl K136 (fun c hc => .inl (Nat.lt_of_lt_of_le (hw55.1 c hc).2 (Below.size E57)))).kl K143 (fun c hc => .inl (Nat.lt_of_lt_of_le (hw66.1 c hc).2 (Nat.le_refl _))))) RV3.mono hu) (Sl.ext (hh40 _ (((((((((((Same.refl _ _).ext E46).ext E57).ext E68).ext E90).ext E99).ext E109).ext E117).ext E127).kl K136 (fun c hc => .inr (Nat.le_trans (Nat.le_refl _) (hw55.1 c hc).1))).kl K143 (fun c hc => .inr (Nat.le_trans (Below.size E46) (hw66.1 c hc).1)))) RV3.mono hu))).mono ?_; rintro v u' ⟨hx, hv⟩
    exact ⟨fun _ => hv.trans (by simp only [hβ4]), hx⟩
  refine RW_d _ rfl (fun v => by dsimp only [List.set]; try rfl) (fun u hu hF => ?_) (fun v156 => ?_)
  · have h77_ : β3 = false → v155 = (Bo β4) := hF.1
    have h74_ : v152 = (Bo β3) := hF.2.1
    clear hF
    obtain rfl := h74_
    refine doesG_g (b := β3) rfl (yld rfl rfl) (fun hg1 => ?_) (fun hc => ⟨fun hg1 => absurd hg1 hc, Ext.refl _⟩)
    obtain rfl := h77_ hg1
    refine (does_not (ev rfl)).mono ?_; rintro _ _ ⟨rfl, rfl⟩
    exact ⟨fun _ => rfl, Ext.refl _⟩
  refine RW_d _ rfl (fun v => by dsimp only [List.set]; try rfl) (fun u hu hF => ?_) (fun v157 => ?_)
  · have h74_ : v152 = (Bo β3) := hF.1
    have h78_ : β3 = false → v156 = (Bo (!β4)) := hF.2.1
    clear hF
    refine doesG_un rfl ?_
    skip
    obtain rfl := h74_
    refine (does_pick (b := β3) (u := (Bo true)) (v := v156) (ev rfl) (ev rfl) (ev rfl)).mono ?_; rintro _ _ ⟨rfl, rfl⟩; refine ⟨?_, Ext.refl _⟩; skip
    cases hbb : β3
    all_goals first | (show _ = _; simp only [↓reduceIte, Bool.true_and, Bool.false_and, Bool.true_or, Bool.false_or, Bool.false_eq_true]; done) | (have e_ := h78_ hbb; subst e_; show _ = _; simp only [↓reduceIte, Bool.true_and, Bool.false_and, Bool.true_or, Bool.false_or, Bool.false_eq_true]; done) | rfl | (have e_ := h78_ hbb; subst e_; rfl) | (simp [hbb] at h78_ ⊢; first | done | rfl | (subst h78_; rfl) | simp_all) | (simp [hbb] at h78_ ⊢; done)
  refine RW_d _ rfl (fun v => by dsimp only [List.set]; try rfl) (fun u hu hF => ?_) (fun v158 => ?_)
  · have h79_ : v157 = (Bo (β3 || (!β4))) := hF.1
    clear hF
    refine doesG_un rfl ?_
    obtain rfl := h79_
    refine (does_move (u := (Bo (β3 || (!β4)))) (ev rfl)).mono ?_; rintro _ _ ⟨rfl, rfl⟩
    exact ⟨rfl, Ext.refl _⟩
  refine RW_d _ rfl (fun v => by dsimp only [List.set]; try rfl) (fun u hu hF => ?_) (fun v159 => ?_)
  · have h80_ : v158 = (Bo (β3 || (!β4))) := hF.1
    clear hF
    obtain rfl := h80_
    refine doesG_g (b := (β3 || (!β4))) rfl (yld rfl rfl) (fun hg1 => ?_) (fun hc => ⟨fun hg1 => absurd hg1 hc, Ext.refl _⟩)
    refine (does_move (u := (Bo (ptOk L_ctr L_rad rnd))) (ev rfl)).mono ?_; rintro _ _ ⟨rfl, rfl⟩
    exact ⟨fun _ => rfl, Ext.refl _⟩
  refine RW_d _ rfl (fun v => by dsimp only [List.set]; try rfl) (fun u hu hF => ?_) (fun v160 => ?_)
  · have h80_ : v158 = (Bo (β3 || (!β4))) := hF.1
    clear hF
    obtain rfl := h80_
    refine doesG_g (b := (β3 || (!β4))) rfl (yld rfl rfl) (fun hg1 => ?_) (fun hc => ⟨fun hg1 => absurd hg1 hc, Ext.refl _⟩)
    refine (does_move (u := (Bo (ptOk L_ctr L_rad rnd))) (ev rfl)).mono ?_; rintro _ _ ⟨rfl, rfl⟩
    exact ⟨fun _ => rfl, Ext.refl _⟩
  refine RW_d _ rfl (fun v => by dsimp only [List.set]; try rfl) (fun u hu hF => ?_) (fun v161 => ?_)
  · have h81_ : (β3 || (!β4)) = false → v159 = (Bo (ptOk L_ctr L_rad rnd)) := hF.1
    have h82_ : (β3 || (!β4)) = false → v160 = (Bo (ptOk L_ctr L_rad rnd)) := hF.2.1
    have h80_ : v158 = (Bo (β3 || (!β4))) := hF.2.2.1
    clear hF
    obtain rfl := h80_
    refine doesG_g (b := (β3 || (!β4))) rfl (yld rfl rfl) (fun hg1 => ?_) (fun hc => ⟨fun hg1 => absurd hg1 hc, Ext.refl _⟩)
    obtain rfl := h81_ hg1
    obtain rfl := h82_ hg1
    refine (does_bne (p := (ptOk L_ctr L_rad rnd)) (q := (ptOk L_ctr L_rad rnd)) Try.underlying4 (ev rfl) (ev rfl)).mono ?_; rintro _ _ ⟨rfl, rfl⟩
    exact ⟨fun _ => (by first | rfl | (show _ = _; simp only [hβ5]; done) | (show _ = _; simp only [hβ5]; rfl)), Ext.refl _⟩
  refine RW_d _ rfl (fun v => by dsimp only [List.set]; try rfl) (fun u hu hF => ?_) (fun v162 => ?_)
  · have h80_ : v158 = (Bo (β3 || (!β4))) := hF.1
    have h83_ : (β3 || (!β4)) = false → v161 = (Bo β5) := hF.2.1
    clear hF
    refine doesG_un rfl ?_
    skip
    obtain rfl := h80_
    refine (does_pick (b := (β3 || (!β4))) (u := (Bo true)) (v := v161) (ev rfl) (ev rfl) (ev rfl)).mono ?_; rintro _ _ ⟨rfl, rfl⟩; refine ⟨?_, Ext.refl _⟩; skip
    cases hbb : (β3 || (!β4))
    all_goals first | (show _ = _; simp only [↓reduceIte, Bool.true_and, Bool.false_and, Bool.true_or, Bool.false_or, Bool.false_eq_true]; done) | (have e_ := h83_ hbb; subst e_; show _ = _; simp only [↓reduceIte, Bool.true_and, Bool.false_and, Bool.true_or, Bool.false_or, Bool.false_eq_true]; done) | rfl | (have e_ := h83_ hbb; subst e_; rfl) | (simp [hbb] at h83_ ⊢; first | done | rfl | (subst h83_; rfl) | simp_all) | (simp [hbb] at h83_ ⊢; done)
  refine RW_fin ?_; intro w163 E164 hP165
  obtain ⟨⟨⟨⟨⟨⟨⟨⟨⟨⟨⟨⟨⟨-, -⟩, -⟩, -⟩, -⟩, -⟩, -⟩, -⟩, -⟩, -⟩, -⟩, -⟩, -⟩, q166⟩ := hP165
  have X167 := Ext.gr X145 E164
  have q166 : v162 = (Bo ((β3 || (!β4)) || β5)) := q166
  obtain rfl := q166
  show wpList _ _ _ _ (fr [_, _, _, _, _, _, _, _, _, _, _, _, _, _, _, _, _, _, _, _, _, _, _, _, _, _, _, _, _, _, _, _, _, _, _, _, _, _, _, _, _, _, _, _, _, _, _, _, _, _, _, _, _, _, _, _, _, _, _, _, _, _, _, _, _, _, _, _, _, _, _, _, _, _, _, _, _, _, _, _, _, _, _, _, _, _, _, _, _, _, _, _, _, _, _, _, _, _, _, _, _, _, _, _, _, _, _, _, _, _, _, _, _, _, _, _, _, _, _, _, _, _]) _
  refine wpList_nil (hK149 _ _ ?_)
  refine wp_cond_split (t := (β3 || (!β4)) || β5) (ev rfl) (fun c168 => ?_) (fun c168 => ?_)
  · have c168' := c168
    (try simp only [hβ1, hβ2, hβ3, hβ4, hβ5, sameX_selfV, sameL_self, bne_self_eq_false] at c168')
    (try simp only [hβ1, hβ2, hβ3, hβ4, hβ5] at c168')
    (try simp only [icmp, Bool.and_eq_true, Bool.or_eq_true, Bool.and_eq_false_iff, Bool.or_eq_false_iff, Bool.not_eq_true', Bool.not_eq_false', decide_eq_true_eq, decide_eq_false_iff_not, beq_iff_eq, bne_iff_ne, beq_eq_false_iff_ne, bne_eq_false_iff_eq] at c168')
    refine wp_seq_k fun K169 hK169 => ?_
    refine wp_region_lit ?_
    refine q_is rfl rfl (does_assign (u := (Bo false)) (ev rfl)) (by dsimp only [List.set]; try rfl) ?_
    refine wpList_nil (hK169 _ _ ?_)
    refine wp_ret ?_
    dsimp only [Exit.then, Exit.inBlock]
    refine ret_val (v := (Bo false)) (res_T rfl (slot rfl)) X167 ?_
    try simp only [hβ1, hβ2, hβ3, hβ4, hβ5, sameX_selfV, sameL_self, bne_self_eq_false] at c4 c15 c94 c112 c130 c168
    have x170 : true = false := by first | with_reducible rfl | (exfalso; omega) | (exfalso; simp only [mkL_len] at * <;> omega) | (exfalso; rcases c168' with ((hh | hh) | hh) | hh <;> first | omega | (exact Bool.noConfusion hh) | (exact absurd rfl hh)) | (exfalso; rcases c168' with (hh | hh) | hh <;> first | omega | (exact Bool.noConfusion hh)) | (exfalso; rcases c168' with hh | hh <;> first | omega | (exact Bool.noConfusion hh)) | (simp only [sameX_selfV, sameL_self, bne_self_eq_false, hβ1, hβ2, hβ3, hβ4, hβ5, c4, c15, c94, c112, c130, c168]; done) | (simp [sameX_selfV, sameL_self, bne_self_eq_false, hβ1, hβ2, hβ3, hβ4, hβ5, c4, c15, c94, c112, c130, c168]; done) | (simp_all; done) | (exfalso; simp_all; done)
    exact (by first | with_reducible rfl | rw [x170] | rfl)
  have c168' := c168
  (try simp only [hβ1, hβ2, hβ3, hβ4, hβ5, sameX_selfV, sameL_self, bne_self_eq_false] at c168')
  (try simp only [hβ1, hβ2, hβ3, hβ4, hβ5] at c168')
  (try simp only [icmp, Bool.and_eq_true, Bool.or_eq_true, Bool.and_eq_false_iff, Bool.or_eq_false_iff, Bool.not_eq_true', Bool.not_eq_false', decide_eq_true_eq, decide_eq_false_iff_not, beq_iff_eq, bne_iff_ne, beq_eq_false_iff_ne, bne_eq_false_iff_eq] at c168')
  refine wp_skip (hK148 _ _ ?_)
  refine wp_seq_k fun K171 hK171 => ?_
  refine wp_region_lit ?_
  refine q_is rfl rfl (does_assign (u := (Iv 1)) (ev rfl)) (by dsimp only [List.set]; try rfl) ?_
  refine wpList_nil (hK171 _ _ ?_)
  refine wp_seq_k fun K172 hK172 => ?_
  refine wp_region_lit ?_
  refine q_is rfl rfl (does_move (u := (.slice p75 ((ptL L_ctr L_rad rnd).length) q76)) (ev rfl)) (by dsimp only [List.set]; try rfl) ?_
  refine q_is rfl rfl (does_move (u := (Iv 1)) (ev rfl)) (by dsimp only [List.set]; try rfl) ?_
  refine seqd rfl rfl (does_callK (args := #[(.slice p75 ((ptL L_ctr L_rad rnd).length) q76), (Iv 1)]) cal28 (evs rfl) (c_laws_markVectorS (.slice p75 ((ptL L_ctr L_rad rnd).length) q76) (ptL L_ctr L_rad rnd).length Lw72 w58.heap.size 1 _ (hw77.same (((((((((Same.refl _ _).ext E90).ext E99).ext E109).ext E117).ext E127).kl K136 (fun c hc => .inl (Nat.lt_of_lt_of_le (hw55.1 c hc).2 (Below.size E57)))).kl K143 (fun c hc => .inl (Nat.lt_of_lt_of_le (hw66.1 c hc).2 (Nat.le_refl _)))).ext E164)) (by omega) (by first | omega | omega))) ?_; rintro _ w173 ⟨K174, rfl, hM175⟩
  have X176 := Below.kl X167 K174 (fun c hc => Nat.le_trans (Below.size (Ext.gr (Ext.gr (Ext.gr (Ext.gr (Ext.gr (Ext.gr (Ext.refl _) E8) E18) E28) E38) E46) E57)) (hw77.1 c hc).1) (Nat.le_refl _)
  show wpList _ _ _ _ (fr [_, _, _, _, _, _, _, _, _, _, _, _, _, _, _, _, _, _, _, _, _, _, _, _, _, _, _, _, _, _, _, _, _, _, _, _, _, _, _, _, _, _, _, _, _, _, _, _, _, _, _, _, _, _, _, _, _, _, _, _, _, _, _, _, _, _, _, _, _, _, _, _, _, _, _, _, _, _, _, _, _, _, _, _, _, _, _, _, _, _, _, _, _, _, _, _, _, _, _, _, _, _, _, _, _, _, _, _, _, _, _, _, _, _, _, _, _, _, _, _, _, _]) _
  refine q_is rfl rfl (does_assign (u := (Iv (1 + ((ptL L_ctr L_rad rnd).length : Int) * 3))) (ev rfl)) (by dsimp only [List.set]; try rfl) ?_
  refine wpList_nil (hK172 _ _ ?_)
  refine wp_seq_k fun K179 hK179 => ?_
  refine wp_region_lit ?_
  refine q_is rfl rfl (does_assign (u := (Iv 1)) (ev rfl)) (by dsimp only [List.set]; try rfl) ?_
  refine wpList_nil (hK179 _ _ ?_)
  refine wp_seq_k fun K180 hK180 => ?_
  refine wp_region_lit ?_
  refine q_is rfl rfl (does_move (u := (.slice p75 ((ptL L_ctr L_rad rnd).length) q76)) (ev rfl)) (by dsimp only [List.set]; try rfl) ?_
  refine q_is rfl rfl (does_move (u := (Iv 1)) (ev rfl)) (by dsimp only [List.set]; try rfl) ?_
  refine seqd rfl rfl (does_call (args := #[(.slice p75 ((ptL L_ctr L_rad rnd).length) q76), (Iv 1)]) cal30 (evs rfl) (c_laws_heldVectorS (.slice p75 ((ptL L_ctr L_rad rnd).length) q76) (mkL fV 3 1 (ptL L_ctr L_rad rnd).length) 1 _ hM175.get (by exact mkL_eq) (by omega) (by (try dsimp only); rw [mkL_len]; omega))) ?_; rintro _ w182 ⟨E181, rfl⟩
  have X183 := Ext.gr X176 E181
  show wpList _ _ _ _ (fr [_, _, _, _, _, _, _, _, _, _, _, _, _, _, _, _, _, _, _, _, _, _, _, _, _, _, _, _, _, _, _, _, _, _, _, _, _, _, _, _, _, _, _, _, _, _, _, _, _, _, _, _, _, _, _, _, _, _, _, _, _, _, _, _, _, _, _, _, _, _, _, _, _, _, _, _, _, _, _, _, _, _, _, _, _, _, _, _, _, _, _, _, _, _, _, _, _, _, _, _, _, _, _, _, _, _, _, _, _, _, _, _, _, _, _, _, _, _, _, _, _, _]) _
  refine q_is rfl rfl (does_assign (u := (Iv (1 + ((mkL fV 3 1 (ptL L_ctr L_rad rnd).length).length : Int) * 3))) (ev rfl)) (by dsimp only [List.set]; try rfl) ?_
  refine wpList_nil (hK180 _ _ ?_)
  refine wp_seq_k fun K184 hK184 => ?_
  refine wp_seq_k fun K185 hK185 => ?_
  refine wp_region_lit ?_
  refine q_is rfl rfl (does_move (u := (Iv (1 + ((mkL fV 3 1 (ptL L_ctr L_rad rnd).length).length : Int) * 3))) (ev rfl)) (by dsimp only [List.set]; try rfl) ?_
  refine q_is rfl rfl (does_icmp (p := 1 + ((mkL fV 3 1 (ptL L_ctr L_rad rnd).length).length : Int) * 3) (q := 0) (.inr (.inr (.inl rfl))) (ev rfl) (ev rfl)) (by dsimp only [List.set]; try rfl) ?_
  refine wpList_nil (hK185 _ _ ?_)
  refine wp_cond_split (t := icmp .lss (1 + ((mkL fV 3 1 (ptL L_ctr L_rad rnd).length).length : Int) * 3) 0) (ev rfl) (fun c186 => ?_) (fun c186 => ?_)
  · have c186' := c186
    (try simp only [hβ1, hβ2, hβ3, hβ4, hβ5, sameX_selfV, sameL_self, bne_self_eq_false] at c186')
    (try simp only [hβ1, hβ2, hβ3, hβ4, hβ5] at c186')
    (try simp only [icmp, Bool.and_eq_true, Bool.or_eq_true, Bool.and_eq_false_iff, Bool.or_eq_false_iff, Bool.not_eq_true', Bool.not_eq_false', decide_eq_true_eq, decide_eq_false_iff_not, beq_iff_eq, bne_iff_ne, beq_eq_false_iff_ne, bne_eq_false_iff_eq] at c186')
    refine wp_seq_k fun K187 hK187 => ?_
    refine wp_region_lit ?_
    refine q_is rfl rfl (does_assign (u := (Bo false)) (ev rfl)) (by dsimp only [List.set]; try rfl) ?_
    refine wpList_nil (hK187 _ _ ?_)
    refine wp_ret ?_
    dsimp only [Exit.then, Exit.inBlock]
    refine ret_val (v := (Bo false)) (res_T rfl (slot rfl)) X183 ?_
    try simp only [hβ1, hβ2, hβ3, hβ4, hβ5, sameX_selfV, sameL_self, bne_self_eq_false] at c4 c15 c94 c112 c130 c168 c186
    have x188 : true = false := by first | with_reducible rfl | (exfalso; omega) | (exfalso; simp only [mkL_len] at * <;> omega) | (exfalso; rcases c186' with ((hh | hh) | hh) | hh <;> first | omega | (exact Bool.noConfusion hh) | (exact absurd rfl hh)) | (exfalso; rcases c186' with (hh | hh) | hh <;> first | omega | (exact Bool.noConfusion hh)) | (exfalso; rcases c186' with hh | hh <;> first | omega | (exact Bool.noConfusion hh)) | (simp only [sameX_selfV, sameL_self, bne_self_eq_false, hβ1, hβ2, hβ3, hβ4, hβ5, c4, c15, c94, c112, c130, c168, c186]; done) | (simp [sameX_selfV, sameL_self, bne_self_eq_false, hβ1, hβ2, hβ3, hβ4, hβ5, c4, c15, c94, c112, c130, c168, c186]; done) | (simp_all; done) | (exfalso; simp_all; done)
    exact (by first | with_reducible rfl | rw [x188] | rfl)
  have c186' := c186
  (try simp only [hβ1, hβ2, hβ3, hβ4, hβ5, sameX_selfV, sameL_self, bne_self_eq_false] at c186')
  (try simp only [hβ1, hβ2, hβ3, hβ4, hβ5] at c186')
  (try simp only [icmp, Bool.and_eq_true, Bool.or_eq_true, Bool.and_eq_false_iff, Bool.or_eq_false_iff, Bool.not_eq_true', Bool.not_eq_false', decide_eq_true_eq, decide_eq_false_iff_not, beq_iff_eq, bne_iff_ne, beq_eq_false_iff_ne, bne_eq_false_iff_eq] at c186')
  refine wp_skip (hK184 _ _ ?_)
  refine wp_seq_k fun K189 hK189 => ?_
  refine wp_seq_k fun K190 hK190 => ?_
  refine wp_region_lit ?_
  refine q_is rfl rfl (does_move (u := (Iv (1 + ((mkL fV 3 1 (ptL L_ctr L_rad rnd).length).length : Int) * 3))) (ev rfl)) (by dsimp only [List.set]; try rfl) ?_
  refine q_is rfl rfl (does_move (u := (Iv (1 + ((ptL L_ctr L_rad rnd).length : Int) * 3))) (ev rfl)) (by dsimp only [List.set]; try rfl) ?_
  refine q_is rfl rfl (does_icmp (p := 1 + ((mkL fV 3 1 (ptL L_ctr L_rad rnd).length).length : Int) * 3) (q := 1 + ((ptL L_ctr L_rad rnd).length : Int) * 3) (.inr (.inl rfl)) (ev rfl) (ev rfl)) (by dsimp only [List.set]; try rfl) ?_
  refine wpList_nil (hK190 _ _ ?_)
  refine wp_cond_split (t := icmp .neq (1 + ((mkL fV 3 1 (ptL L_ctr L_rad rnd).length).length : Int) * 3) (1 + ((ptL L_ctr L_rad rnd).length : Int) * 3)) (ev rfl) (fun c191 => ?_) (fun c191 => ?_)
  · have c191' := c191
    (try simp only [hβ1, hβ2, hβ3, hβ4, hβ5, sameX_selfV, sameL_self, bne_self_eq_false] at c191')
    (try simp only [hβ1, hβ2, hβ3, hβ4, hβ5] at c191')
    (try simp only [icmp, Bool.and_eq_true, Bool.or_eq_true, Bool.and_eq_false_iff, Bool.or_eq_false_iff, Bool.not_eq_true', Bool.not_eq_false', decide_eq_true_eq, decide_eq_false_iff_not, beq_iff_eq, bne_iff_ne, beq_eq_false_iff_ne, bne_eq_false_iff_eq] at c191')
    refine wp_seq_k fun K192 hK192 => ?_
    refine wp_region_lit ?_
    refine q_is rfl rfl (does_assign (u := (Bo false)) (ev rfl)) (by dsimp only [List.set]; try rfl) ?_
    refine wpList_nil (hK192 _ _ ?_)
    refine wp_ret ?_
    dsimp only [Exit.then, Exit.inBlock]
    refine ret_val (v := (Bo false)) (res_T rfl (slot rfl)) X183 ?_
    try simp only [hβ1, hβ2, hβ3, hβ4, hβ5, sameX_selfV, sameL_self, bne_self_eq_false] at c4 c15 c94 c112 c130 c168 c186 c191
    have x193 : true = false := by first | with_reducible rfl | (exfalso; omega) | (exfalso; simp only [mkL_len] at * <;> omega) | (exfalso; rcases c191' with ((hh | hh) | hh) | hh <;> first | omega | (exact Bool.noConfusion hh) | (exact absurd rfl hh)) | (exfalso; rcases c191' with (hh | hh) | hh <;> first | omega | (exact Bool.noConfusion hh)) | (exfalso; rcases c191' with hh | hh <;> first | omega | (exact Bool.noConfusion hh)) | (simp only [sameX_selfV, sameL_self, bne_self_eq_false, hβ1, hβ2, hβ3, hβ4, hβ5, c4, c15, c94, c112, c130, c168, c186, c191]; done) | (simp [sameX_selfV, sameL_self, bne_self_eq_false, hβ1, hβ2, hβ3, hβ4, hβ5, c4, c15, c94, c112, c130, c168, c186, c191]; done) | (simp_all; done) | (exfalso; simp_all; done)
    exact (by first | with_reducible rfl | rw [x193] | rfl)
  have c191' := c191
  (try simp only [hβ1, hβ2, hβ3, hβ4, hβ5, sameX_selfV, sameL_self, bne_self_eq_false] at c191')
  (try simp only [hβ1, hβ2, hβ3, hβ4, hβ5] at c191')
  (try simp only [icmp, Bool.and_eq_true, Bool.or_eq_true, Bool.and_eq_false_iff, Bool.or_eq_false_iff, Bool.not_eq_true', Bool.not_eq_false', decide_eq_true_eq, decide_eq_false_iff_not, beq_iff_eq, bne_iff_ne, beq_eq_false_iff_ne, bne_eq_false_iff_eq] at c191')
  refine wp_skip (hK189 _ _ ?_)
  refine wp_seq_k fun K194 hK194 => ?_
  refine wp_region_lit ?_
  refine q_is rfl rfl (does_move (u := (.slice p_ctr L_ctr.length q_ctr)) (ev rfl)) (by dsimp only [List.set]; try rfl) ?_
  refine seqd rfl rfl (does_call (args := #[(.slice p_ctr L_ctr.length q_ctr)]) cal23 (evs rfl) (c_laws_toVectorS (.slice p_ctr L_ctr.length q_ctr) L_ctr _ (Sl.ext hv_ctr RV3.mono X183) (by omega))) ?_; rintro _ w196 ⟨E195, ⟨y198, Lw199, rfl, hh197, hw200⟩⟩
  have X201 := Ext.gr X183 E195
  obtain ⟨p202, q203, rfl⟩ := Sl.shape hh197.get
  have hw204 : WL 3 w182.heap.size w196 Lw199 (.slice p202 L_ctr.length q203) L_ctr.length := hw200
  show wpList _ _ _ _ (fr [_, _, _, _, _, _, _, _, _, _, _, _, _, _, _, _, _, _, _, _, _, _, _, _, _, _, _, _, _, _, _, _, _, _, _, _, _, _, _, _, _, _, _, _, _, _, _, _, _, _, _, _, _, _, _, _, _, _, _, _, _, _, _, _, _, _, _, _, _, _, _, _, _, _, _, _, _, _, _, _, _, _, _, _, _, _, _, _, _, _, _, _, _, _, _, _, _, _, _, _, _, _, _, _, _, _, _, _, _, _, _, _, _, _, _, _, _, _, _, _, _, _]) _
  refine q_is rfl rfl (does_move (u := (.slice p_rad L_rad.length q_rad)) (ev rfl)) (by dsimp only [List.set]; try rfl) ?_
  refine seqd rfl rfl (does_call (args := #[(.slice p_rad L_rad.length q_rad)]) cal24 (evs rfl) (c_laws_toFloat32S (.slice p_rad L_rad.length q_rad) L_rad _ (Sl.ext hv_rad RF.mono X201) (by omega))) ?_; rintro _ w206 ⟨E205, ⟨y208, Lw209, rfl, hh207, hw210⟩⟩
  have X211 := Ext.gr X201 E205
  obtain ⟨p212, q213, rfl⟩ := Sl.shape hh207.get
  have hw214 : WL 1 w196.heap.size w206 Lw209 (.slice p212 L_rad.length q213) L_rad.length := hw210
  show wpList _ _ _ _ (fr [_, _, _, _, _, _, _, _, _, _, _, _, _, _, _, _, _, _, _, _, _, _, _, _, _, _, _, _, _, _, _, _, _, _, _, _, _, _, _, _, _, _, _, _, _, _, _, _, _, _, _, _, _, _, _, _, _, _, _, _, _, _, _, _, _, _, _, _, _, _, _, _, _, _, _, _, _, _, _, _, _, _, _, _, _, _, _, _, _, _, _, _, _, _, _, _, _, _, _, _, _, _, _, _, _, _, _, _, _, _, _, _, _, _, _, _, _, _, _, _, _, _]) _
  refine q_is rfl rfl (does_move (u := (Iv rnd)) (ev rfl)) (by dsimp only [List.set]; try rfl) ?_
  refine seqd rfl rfl (does_call (args := #[(.slice p202 L_ctr.length q203), (.slice p212 L_rad.length q213), (Iv rnd)]) cal25 (evs rfl) (c_impl_PartBalls (.slice p202 L_ctr.length q203) L_ctr (.slice p212 L_rad.length q213) L_rad rnd _ (hh197 _ ((Same.refl _ _).ext E205)) hh207.get)) ?_; rintro _ w216 ⟨E215, ⟨y218, Lw219, rfl, hh217, hw220⟩⟩
  have X221 := Ext.gr X211 E215
  obtain ⟨p222, q223, rfl⟩ := Sl.shape hh217.get
  have hw224 : WL 3 w206.heap.size w216 Lw219 (.slice p222 ((ptL L_ctr L_rad rnd).length) q223) (ptL L_ctr L_rad rnd).length := hw220
  show wpList _ _ _ _ (fr [_, _, _, _, _, _, _, _, _, _, _, _, _, _, _, _, _, _, _, _, _, _, _, _, _, _, _, _, _, _, _, _, _, _, _, _, _, _, _, _, _, _, _, _, _, _, _, _, _, _, _, _, _, _, _, _, _, _, _, _, _, _, _, _, _, _, _, _, _, _, _, _, _, _, _, _, _, _, _, _, _, _, _, _, _, _, _, _, _, _, _, _, _, _, _, _, _, _, _, _, _, _, _, _, _, _, _, _, _, _, _, _, _, _, _, _, _, _, _, _, _, _]) _
  refine q_is rfl rfl (does_move (u := (.tuple #[(.slice p222 ((ptL L_ctr L_rad rnd).length) q223), (Bo (ptOk L_ctr L_rad rnd))])) (ev rfl)) (by dsimp only [List.set]; try rfl) ?_
  refine q_is rfl rfl (does_extract (vs := #[(.slice p222 ((ptL L_ctr L_rad rnd).length) q223), (Bo (ptOk L_ctr L_rad rnd))]) (u := (.slice p222 ((ptL L_ctr L_rad rnd).length) q223)) (ev rfl) rfl) (by dsimp only [List.set]; try rfl) ?_
  refine q_is rfl rfl (does_extract (vs := #[(.slice p222 ((ptL L_ctr L_rad rnd).length) q223), (Bo (ptOk L_ctr L_rad rnd))]) (u := (Bo (ptOk L_ctr L_rad rnd))) (ev rfl) rfl) (by dsimp only [List.set]; try rfl) ?_
  refine q_is rfl rfl (does_assign (u := (.slice p222 ((ptL L_ctr L_rad rnd).length) q223)) (ev rfl)) (by dsimp only [List.set]; try rfl) ?_
  refine q_is rfl rfl (does_assign (u := (Bo (ptOk L_ctr L_rad rnd))) (ev rfl)) (by dsimp only [List.set]; try rfl) ?_
  refine wpList_nil (hK194 _ _ ?_)
  refine wp_seq_k fun K225 hK225 => ?_
  refine wp_seq_k fun K226 hK226 => ?_
  obtain ⟨β6, hβ6⟩ : ∃ b : Bool, b = (sameX sameV (ptL L_ctr L_rad rnd) (ptL L_ctr L_rad rnd)) := ⟨_, rfl⟩
  obtain ⟨β7, hβ7⟩ : ∃ b : Bool, b = ((ptOk L_ctr L_rad rnd) != (ptOk L_ctr L_rad rnd)) := ⟨_, rfl⟩
  refine region_text (
    [Fact.pure [] (fun v => v = (.slice p222 ((ptL L_ctr L_rad rnd).length) q223)),
    Fact.pure [] (fun v => v = (.slice p43 ((ptL L_ctr L_rad rnd).length) q44)),
    Fact.pure [105, 106] (fun v => v = (Bo β6)),
    Fact.pure [107] (fun v => v = (Bo (!β6))),
    Fact.pure [108] (fun v => v = (Bo (!β6))),
    Fact.pure [109] (fun v => (!β6) = false → v = (Bo (ptOk L_ctr L_rad rnd))),
    Fact.pure [109] (fun v => (!β6) = false → v = (Bo (ptOk L_ctr L_rad rnd))),
    Fact.pure [110, 111, 109] (fun v => (!β6) = false → v = (Bo β7)),
    Fact.pure [109, 112] (fun v => v = (Bo ((!β6) || β7)))]) (by simp [Fact.pure, Fact.mem]) ?_
  refine RW_d _ rfl (fun v => by dsimp only [List.set]; try rfl) (fun u hu hF => ?_) (fun v227 => ?_)
  · clear hF
    refine doesG_un rfl ?_
    refine (does_move (u := (.slice p222 ((ptL L_ctr L_rad rnd).length) q223)) (ev rfl)).mono ?_; rintro _ _ ⟨rfl, rfl⟩
    exact ⟨rfl, Ext.refl _⟩
  refine RW_d _ rfl (fun v => by dsimp only [List.set]; try rfl) (fun u hu hF => ?_) (fun v228 => ?_)
  · clear hF
    refine doesG_un rfl ?_
    refine (does_move (u := (.slice p43 ((ptL L_ctr L_rad rnd).length) q44)) (ev rfl)).mono ?_; rintro _ _ ⟨rfl, rfl⟩
    exact ⟨rfl, Ext.refl _⟩
  refine RW_d _ rfl (fun v => by dsimp only [List.set]; try rfl) (fun u hu hF => ?_) (fun v229 => ?_)
  · have h105_ : v227 = (.slice p222 ((ptL L_ctr L_rad rnd).length) q223) := hF.1
    have h106_ : v228 = (.slice p43 ((ptL L_ctr L_rad rnd).length) q44) := hF.2.1
    clear hF
    refine doesG_un rfl ?_
    obtain rfl := h105_
    obtain rfl := h106_
    refine (does_call (args := #[(.slice p222 ((ptL L_ctr L_rad rnd).length) q223), (.slice p43 ((ptL L_ctr L_rad rnd).length) q44)]) cal26 (evs rfl) (c_laws_eqVectorS (.slice p222 ((ptL L_ctr L_rad rnd).length) q223) (ptL L_ctr L_rad rnd) (.slice p43 ((ptL L_ctr L_rad rnd).length) q44) (ptL L_ctr L_rad rnd) _ (Sl.ext hh217.get RV3.mono hu) (Sl.ext (hh40 _ (((((((((((((((((Same.refl _ _).ext E46).ext E57).ext E68).ext E90).ext E99).ext E109).ext E117).ext E127).kl K136 (fun c hc => .inr (Nat.le_trans (Nat.le_refl _) (hw55.1 c hc).1))).kl K143 (fun c hc => .inr (Nat.le_trans (Below.size E46) (hw66.1 c hc).1))).ext E164).kl K174 (fun c hc => .inr (Nat.le_trans (Nat.le_trans (Below.size E46) (Below.size E57)) (hw77.1 c hc).1))).ext E181).ext E195).ext E205).ext E215)) RV3.mono hu))).mono ?_; rintro v u' ⟨hx, hv⟩
    exact ⟨hv.trans (by simp only [hβ6]), hx⟩
  refine RW_d _ rfl (fun v => by dsimp only [List.set]; try rfl) (fun u hu hF => ?_) (fun v230 => ?_)
  · have h107_ : v229 = (Bo β6) := hF.1
    clear hF
    refine doesG_un rfl ?_
    obtain rfl := h107_
    refine (does_not (ev rfl)).mono ?_; rintro _ _ ⟨rfl, rfl⟩
    exact ⟨rfl, Ext.refl _⟩
  refine RW_d _ rfl (fun v => by dsimp only [List.set]; try rfl) (fun u hu hF => ?_) (fun v231 => ?_)
  · have h108_ : v230 = (Bo (!β6)) := hF.1
    clear hF
    refine doesG_un rfl ?_
    obtain rfl := h108_
    refine (does_move (u := (Bo (!β6))) (ev rfl)).mono ?_; rintro _ _ ⟨rfl, rfl⟩
    exact ⟨rfl, Ext.refl _⟩
  refine RW_d _ rfl (fun v => by dsimp only [List.set]; try rfl) (fun u hu hF => ?_) (fun v232 => ?_)
  · have h109_ : v231 = (Bo (!β6)) := hF.1
    clear hF
    obtain rfl := h109_
    refine doesG_g (b := (!β6)) rfl (yld rfl rfl) (fun hg1 => ?_) (fun hc => ⟨fun hg1 => absurd hg1 hc, Ext.refl _⟩)
    refine (does_move (u := (Bo (ptOk L_ctr L_rad rnd))) (ev rfl)).mono ?_; rintro _ _ ⟨rfl, rfl⟩
    exact ⟨fun _ => rfl, Ext.refl _⟩
  refine RW_d _ rfl (fun v => by dsimp only [List.set]; try rfl) (fun u hu hF => ?_) (fun v233 => ?_)
  · have h109_ : v231 = (Bo (!β6)) := hF.1
    clear hF
    obtain rfl := h109_
    refine doesG_g (b := (!β6)) rfl (yld rfl rfl) (fun hg1 => ?_) (fun hc => ⟨fun hg1 => absurd hg1 hc, Ext.refl _⟩)
    refine (does_move (u := (Bo (ptOk L_ctr L_rad rnd))) (ev rfl)).mono ?_; rintro _ _ ⟨rfl, rfl⟩
    exact ⟨fun _ => rfl, Ext.refl _⟩
  refine RW_d _ rfl (fun v => by dsimp only [List.set]; try rfl) (fun u hu hF => ?_) (fun v234 => ?_)
  · have h110_ : (!β6) = false → v232 = (Bo (ptOk L_ctr L_rad rnd)) := hF.1
    have h111_ : (!β6) = false → v233 = (Bo (ptOk L_ctr L_rad rnd)) := hF.2.1
    have h109_ : v231 = (Bo (!β6)) := hF.2.2.1
    clear hF
    obtain rfl := h109_
    refine doesG_g (b := (!β6)) rfl (yld rfl rfl) (fun hg1 => ?_) (fun hc => ⟨fun hg1 => absurd hg1 hc, Ext.refl _⟩)
    obtain rfl := h110_ hg1
    obtain rfl := h111_ hg1
    refine (does_bne (p := (ptOk L_ctr L_rad rnd)) (q := (ptOk L_ctr L_rad rnd)) Try.underlying4 (ev rfl) (ev rfl)).mono ?_; rintro _ _ ⟨rfl, rfl⟩
    exact ⟨fun _ => (by first | rfl | (show _ = _; simp only [hβ7]; done) | (show _ = _; simp only [hβ7]; rfl)), Ext.refl _⟩
  refine RW_d _ rfl (fun v => by dsimp only [List.set]; try rfl) (fun u hu hF => ?_) (fun v235 => ?_)
  · have h109_ : v231 = (Bo (!β6)) := hF.1
    have h112_ : (!β6) = false → v234 = (Bo β7) := hF.2.1
    clear hF
    refine doesG_un rfl ?_
    skip
    obtain rfl := h109_
    refine (does_pick (b := (!β6)) (u := (Bo true)) (v := v234) (ev rfl) (ev rfl) (ev rfl)).mono ?_; rintro _ _ ⟨rfl, rfl⟩; refine ⟨?_, Ext.refl _⟩; skip
    cases hbb : (!β6)
    all_goals first | (show _ = _; simp only [↓reduceIte, Bool.true_and, Bool.false_and, Bool.true_or, Bool.false_or, Bool.false_eq_true]; done) | (have e_ := h112_ hbb; subst e_; show _ = _; simp only [↓reduceIte, Bool.true_and, Bool.false_and, Bool.true_or, Bool.false_or, Bool.false_eq_true]; done) | rfl | (have e_ := h112_ hbb; subst e_; rfl) | (simp [hbb] at h112_ ⊢; first | done | rfl | (subst h112_; rfl) | simp_all) | (simp [hbb] at h112_ ⊢; done)
  refine RW_fin ?_; intro w236 E237 hP238
  obtain ⟨⟨⟨⟨⟨⟨⟨⟨⟨-, -⟩, -⟩, -⟩, -⟩, -⟩, -⟩, -⟩, -⟩, q239⟩ := hP238
  have X240 := Ext.gr X221 E237
  have q239 : v235 = (Bo ((!β6) || β7)) := q239
  obtain rfl := q239
  show wpList _ _ _ _ (fr [_, _, _, _, _, _, _, _, _, _, _, _, _, _, _, _, _, _, _, _, _, _, _, _, _, _, _, _, _, _, _, _, _, _, _, _, _, _, _, _, _, _, _, _, _, _, _, _, _, _, _, _, _, _, _, _, _, _, _, _, _, _, _, _, _, _, _, _, _, _, _, _, _, _, _, _, _, _, _, _, _, _, _, _, _, _, _, _, _, _, _, _, _, _, _, _, _, _, _, _, _, _, _, _, _, _, _, _, _, _, _, _, _, _, _, _, _, _, _, _, _, _]) _
  refine wpList_nil (hK226 _ _ ?_)
  refine wp_cond_split (t := (!β6) || β7) (ev rfl) (fun c241 => ?_) (fun c241 => ?_)
  · have c241' := c241
    (try simp only [hβ1, hβ2, hβ3, hβ4, hβ5, hβ6, hβ7, sameX_selfV, sameL_self, bne_self_eq_false] at c241')
    (try simp only [hβ1, hβ2, hβ3, hβ4, hβ5, hβ6, hβ7] at c241')
    (try simp only [icmp, Bool.and_eq_true, Bool.or_eq_true, Bool.and_eq_false_iff, Bool.or_eq_false_iff, Bool.not_eq_true', Bool.not_eq_false', decide_eq_true_eq, decide_eq_false_iff_not, beq_iff_eq, bne_iff_ne, beq_eq_false_iff_ne, bne_eq_false_iff_eq] at c241')
    refine wp_seq_k fun K242 hK242 => ?_
    refine wp_region_lit ?_
    refine q_is rfl rfl (does_assign (u := (Bo false)) (ev rfl)) (by dsimp only [List.set]; try rfl) ?_
    refine wpList_nil (hK242 _ _ ?_)
    refine wp_ret ?_
    dsimp only [Exit.then, Exit.inBlock]
    refine ret_val (v := (Bo false)) (res_T rfl (slot rfl)) X240 ?_
    try simp only [hβ1, hβ2, hβ3, hβ4, hβ5, hβ6, hβ7, sameX_selfV, sameL_self, bne_self_eq_false] at c4 c15 c94 c112 c130 c168 c186 c191 c241
    have x243 : true = false := by first | with_reducible rfl | (exfalso; omega) | (exfalso; simp only [mkL_len] at * <;> omega) | (exfalso; rcases c241' with ((hh | hh) | hh) | hh <;> first | omega | (exact Bool.noConfusion hh) | (exact absurd rfl hh)) | (exfalso; rcases c241' with (hh | hh) | hh <;> first | omega | (exact Bool.noConfusion hh)) | (exfalso; rcases c241' with hh | hh <;> first | omega | (exact Bool.noConfusion hh)) | (simp only [sameX_selfV, sameL_self, bne_self_eq_false, hβ1, hβ2, hβ3, hβ4, hβ5, hβ6, hβ7, c4, c15, c94, c112, c130, c168, c186, c191, c241]; done) | (simp [sameX_selfV, sameL_self, bne_self_eq_false, hβ1, hβ2, hβ3, hβ4, hβ5, hβ6, hβ7, c4, c15, c94, c112, c130, c168, c186, c191, c241]; done) | (simp_all; done) | (exfalso; simp_all; done)
    exact (by first | with_reducible rfl | rw [x243] | rfl)
  have c241' := c241
  (try simp only [hβ1, hβ2, hβ3, hβ4, hβ5, hβ6, hβ7, sameX_selfV, sameL_self, bne_self_eq_false] at c241')
  (try simp only [hβ1, hβ2, hβ3, hβ4, hβ5, hβ6, hβ7] at c241')
  (try simp only [icmp, Bool.and_eq_true, Bool.or_eq_true, Bool.and_eq_false_iff, Bool.or_eq_false_iff, Bool.not_eq_true', Bool.not_eq_false', decide_eq_true_eq, decide_eq_false_iff_not, beq_iff_eq, bne_iff_ne, beq_eq_false_iff_ne, bne_eq_false_iff_eq] at c241')
  refine wp_skip (hK225 _ _ ?_)
  refine wp_seq_k fun K244 hK244 => ?_
  refine wp_region_lit ?_
  refine q_is rfl rfl (does_assign (u := (Iv 1)) (ev rfl)) (by dsimp only [List.set]; try rfl) ?_
  refine wpList_nil (hK244 _ _ ?_)
  refine wp_seq_k fun K245 hK245 => ?_
  refine wp_region_lit ?_
  refine q_is rfl rfl (does_move (u := (.slice p75 ((ptL L_ctr L_rad rnd).length) q76)) (ev rfl)) (by dsimp only [List.set]; try rfl) ?_
  refine q_is rfl rfl (does_move (u := (Iv 1)) (ev rfl)) (by dsimp only [List.set]; try rfl) ?_
  refine seqd rfl rfl (does_call (args := #[(.slice p75 ((ptL L_ctr L_rad rnd).length) q76), (Iv 1)]) cal30 (evs rfl) (c_laws_heldVectorS (.slice p75 ((ptL L_ctr L_rad rnd).length) q76) (mkL fV 3 1 (ptL L_ctr L_rad rnd).length) 1 _ (hM175 _ ((((((Same.refl _ _).ext E181).ext E195).ext E205).ext E215).ext E237)) (by exact mkL_eq) (by omega) (by (try dsimp only); rw [mkL_len]; omega))) ?_; rintro _ w247 ⟨E246, rfl⟩
  have X248 := Ext.gr X240 E246
  show wpList _ _ _ _ (fr [_, _, _, _, _, _, _, _, _, _, _, _, _, _, _, _, _, _, _, _, _, _, _, _, _, _, _, _, _, _, _, _, _, _, _, _, _, _, _, _, _, _, _, _, _, _, _, _, _, _, _, _, _, _, _, _, _, _, _, _, _, _, _, _, _, _, _, _, _, _, _, _, _, _, _, _, _, _, _, _, _, _, _, _, _, _, _, _, _, _, _, _, _, _, _, _, _, _, _, _, _, _, _, _, _, _, _, _, _, _, _, _, _, _, _, _, _, _, _, _, _, _]) _
  refine q_is rfl rfl (does_assign (u := (Iv (1 + ((mkL fV 3 1 (ptL L_ctr L_rad rnd).length).length : Int) * 3))) (ev rfl)) (by dsimp only [List.set]; try rfl) ?_
  refine wpList_nil (hK245 _ _ ?_)
  refine wp_seq_k fun K249 hK249 => ?_
  refine wp_seq_k fun K250 hK250 => ?_
  refine wp_region_lit ?_
  refine q_is rfl rfl (does_move (u := (Iv (1 + ((mkL fV 3 1 (ptL L_ctr L_rad rnd).length).length : Int) * 3))) (ev rfl)) (by dsimp only [List.set]; try rfl) ?_
  refine q_is rfl rfl (does_icmp (p := 1 + ((mkL fV 3 1 (ptL L_ctr L_rad rnd).length).length : Int) * 3) (q := 0) (.inr (.inr (.inl rfl))) (ev rfl) (ev rfl)) (by dsimp only [List.set]; try rfl) ?_
  refine wpList_nil (hK250 _ _ ?_)
  refine wp_cond_false ((ev (rfl : evl _ _ = .bool (icmp .lss (1 + ((mkL fV 3 1 (ptL L_ctr L_rad rnd).length).length : Int) * 3) 0))).trans (congrArg Value.bool c186)) ?_
  refine wp_skip (hK249 _ _ ?_)
  refine wp_seq_k fun K251 hK251 => ?_
  refine wp_seq_k fun K252 hK252 => ?_
  refine wp_region_lit ?_
  refine q_is rfl rfl (does_move (u := (Iv (1 + ((mkL fV 3 1 (ptL L_ctr L_rad rnd).length).length : Int) * 3))) (ev rfl)) (by dsimp only [List.set]; try rfl) ?_
  refine q_is rfl rfl (does_move (u := (Iv (1 + ((ptL L_ctr L_rad rnd).length : Int) * 3))) (ev rfl)) (by dsimp only [List.set]; try rfl) ?_
  refine q_is rfl rfl (does_icmp (p := 1 + ((mkL fV 3 1 (ptL L_ctr L_rad rnd).length).length : Int) * 3) (q := 1 + ((ptL L_ctr L_rad rnd).length : Int) * 3) (.inr (.inl rfl)) (ev rfl) (ev rfl)) (by dsimp only [List.set]; try rfl) ?_
  refine wpList_nil (hK252 _ _ ?_)
  refine wp_cond_false ((ev (rfl : evl _ _ = .bool (icmp .neq (1 + ((mkL fV 3 1 (ptL L_ctr L_rad rnd).length).length : Int) * 3) (1 + ((ptL L_ctr L_rad rnd).length : Int) * 3)))).trans (congrArg Value.bool c191)) ?_
  refine wp_skip (hK251 _ _ ?_)
  refine wp_seq_k fun K253 hK253 => ?_
  refine wp_region_lit ?_
  refine q_is rfl rfl (does_assign (u := (Bo true)) (ev rfl)) (by dsimp only [List.set]; try rfl) ?_
  refine wpList_nil (hK253 _ _ ?_)
  refine wp_ret ?_
  refine ret_val (v := (Bo true)) (res_T rfl (slot rfl)) X248 ?_
  try simp only [hβ1, hβ2, hβ3, hβ4, hβ5, hβ6, hβ7, sameX_selfV, sameL_self, bne_self_eq_false] at c4 c15 c94 c112 c130 c168 c186 c191 c241
  exact rfl

end Go.Proofs.Ytcmcooabaglbpaa
