/- contracts of functions, each walked once -/
import Derived.Test.YtlfpeihlfmdmdaaP3
namespace Go.Proofs.Ytlfpeihlfmdmdaa
open Go Go.RowKit
set_option maxRecDepth 100000
set_option maxHeartbeats 3200000
set_option linter.unusedVariables false
set_option linter.unusedSimpArgs false

/- laws.eqGrid -/
theorem c_laws_eqGrid (a : List Value) (A_a : GridT) (b : List Value) (A_b : GridT) (w : World) (hv_a : RGridT w A_a a) (hv_b : RGridT w A_b b) : Gives Try.prog 18 #[(.agg a.toArray), (.agg b.toArray)] w (fun v w' => v = (Bo (sameG A_a A_b))) := by
  obtain ⟨r1, r3, r5, r7, y9, rfl, h2, h4, h6, h8, h10⟩ := hv_a
  obtain ⟨r11, r13, r15, r17, y19, rfl, h12, h14, h16, h18, h20⟩ := hv_b
  have hs23 := h10; have hs23l := Sl.len h10; obtain ⟨p21, q22, rfl⟩ := Sl.shape h10
  have hs26 := h20; have hs26l := Sl.len h20; obtain ⟨p24, q25, rfl⟩ := Sl.shape h20
  refine enter [(.agg #[(Fl r1), (Fl r3), (Fl r5), (Fl r7), (Iv A_a.x), (Iv A_a.y), (Iv A_a.z), (.slice p21 A_a.vals.length q22)]), (.agg #[(Fl r11), (Fl r13), (Fl r15), (Fl r17), (Iv A_b.x), (Iv A_b.y), (Iv A_b.z), (.slice p24 A_b.vals.length q25)]), Ud, Ud, Ud, Ud, Ud, Ud, Ud, Ud, Ud, Ud, Ud, Ud, Ud, Ud, Ud, Ud, Ud, Ud, Ud, Ud, Ud, Ud, Ud, Ud, Ud, Ud, Ud, Ud, Ud, Ud, Ud, Ud, Ud, Ud, Ud, Ud, Ud, Ud] Try.func18 rfl Try.ntmps18 rfl ?_
  refine wp_seq_k fun K27 hK27 => ?_
  refine wp_region_lit ?_
  refine seqd rfl rfl (does_box (u := (.agg #[(Fl r1), (Fl r3), (Fl r5), (Fl r7), (Iv A_a.x), (Iv A_a.y), (Iv A_a.z), (.slice p21 A_a.vals.length q22)])) (ev rfl)) ?_; rintro _ w32 ⟨b28, rfl, hb29, hB30, E31⟩
  have g33 : w.heap.size ≤ b28 := Nat.le_trans (Below.size (Ext.refl w)) hb29
  change Blk _ _ [(Fl r1), (Fl r3), (Fl r5), (Fl r7), (Iv A_a.x), (Iv A_a.y), (Iv A_a.z), (.slice p21 A_a.vals.length q22)] at hB30
  have X34 := Ext.gr (Ext.refl w) E31
  show wpList _ _ _ _ (fr [_, _, _, _, _, _, _, _, _, _, _, _, _, _, _, _, _, _, _, _, _, _, _, _, _, _, _, _, _, _, _, _, _, _, _, _, _, _, _, _]) _
  refine seqd rfl rfl (does_box (u := (.agg #[(Fl r11), (Fl r13), (Fl r15), (Fl r17), (Iv A_b.x), (Iv A_b.y), (Iv A_b.z), (.slice p24 A_b.vals.length q25)])) (ev rfl)) ?_; rintro _ w39 ⟨b35, rfl, hb36, hB37, E38⟩
  have n40 : b28 < b35 := Nat.lt_of_lt_of_le (Blk.lt hB30) hb36
  have g41 : w.heap.size ≤ b35 := Nat.le_trans (Below.size X34) hb36
  change Blk _ _ [(Fl r11), (Fl r13), (Fl r15), (Fl r17), (Iv A_b.x), (Iv A_b.y), (Iv A_b.z), (.slice p24 A_b.vals.length q25)] at hB37
  have X42 := Ext.gr X34 E38
  show wpList _ _ _ _ (fr [_, _, _, _, _, _, _, _, _, _, _, _, _, _, _, _, _, _, _, _, _, _, _, _, _, _, _, _, _, _, _, _, _, _, _, _, _, _, _, _]) _
  refine q_is rfl rfl (does_assign (u := (Bo false)) (ev rfl)) (by dsimp only [List.set]; try rfl) ?_
  refine wpList_nil (hK27 _ _ ?_)
  refine wp_seq_k fun K43 hK43 => ?_
  refine wp_seq_k fun K44 hK44 => ?_
  refine wp_region_lit ?_
  refine q_is rfl rfl (does_fieldAddr (ev rfl) fa49_0) (by dsimp only [List.set]; try rfl) ?_
  refine q_is rfl rfl (does_loadAgg (cs := [(Fl r1), (Fl r3), (Fl r5)]) (ev rfl) Try.isAgg47 Try.sizeOf47 (Cells.sub (Blk.cells (hB30.ext E38)) 0 3) rfl) (by dsimp only [List.set]; try rfl) ?_
  refine q_is rfl rfl (does_fieldAddr (ev rfl) fa49_0) (by dsimp only [List.set]; try rfl) ?_
  refine q_is rfl rfl (does_loadAgg (cs := [(Fl r11), (Fl r13), (Fl r15)]) (ev rfl) Try.isAgg47 Try.sizeOf47 (Cells.sub (Blk.cells hB37) 0 3) rfl) (by dsimp only [List.set]; try rfl) ?_
  refine seqd rfl rfl (does_call (args := #[(.agg #[(Fl r1), (Fl r3), (Fl r5)]), (.agg #[(Fl r11), (Fl r13), (Fl r15)])]) cal42 (evs rfl) (c_laws_eqVector [(Fl r1), (Fl r3), (Fl r5)] A_a.low [(Fl r11), (Fl r13), (Fl r15)] A_b.low _ ⟨r1, r3, r5, rfl, h2, h4, h6⟩ ⟨r11, r13, r15, rfl, h12, h14, h16⟩)) ?_; rintro _ w46 ⟨E45, rfl⟩
  have X47 := Ext.gr X42 E45
  show wpList _ _ _ _ (fr [_, _, _, _, _, _, _, _, _, _, _, _, _, _, _, _, _, _, _, _, _, _, _, _, _, _, _, _, _, _, _, _, _, _, _, _, _, _, _, _]) _
  refine q_is rfl rfl (does_not (ev rfl)) (by dsimp only [List.set]; try rfl) ?_
  refine wpList_nil (hK44 _ _ ?_)
  refine wp_cond_split (t := !(sameV A_a.low A_b.low)) (ev rfl) (fun c48 => ?_) (fun c48 => ?_)
  · rw [Bool.not_eq_true'] at c48
    have c48' := c48
    refine wp_seq_k fun K49 hK49 => ?_
    refine wp_region_lit ?_
    refine q_is rfl rfl (does_assign (u := (Bo false)) (ev rfl)) (by dsimp only [List.set]; try rfl) ?_
    refine wpList_nil (hK49 _ _ ?_)
    refine wp_ret ?_
    dsimp only [Exit.then, Exit.inBlock]
    refine ret_val (v := (Bo false)) (res_T rfl (slot rfl)) X47 ?_
    try simp only [h2, h4, h6, h8, h12, h14, h16, h18] at c48
    have x50 : (sameG A_a A_b) = false := by first | with_reducible rfl | (simp only [sameG, icmp, h2, h4, h6, h8, h12, h14, h16, h18, c48]; done) | (simp [sameG, icmp, h2, h4, h6, h8, h12, h14, h16, h18, c48]; done) | (revert c48; simp +contextual [sameG, icmp, h2, h4, h6, h8, h12, h14, h16, h18]; done) | (rcases c48' with hh | hh <;> simp only [hh, sameG, icmp, h2, h4, h6, h8, h12, h14, h16, h18, c48]; done) | (rcases c48' with hh | hh <;> simp_all [sameG, icmp]; done) | (rcases c48' with hh | hh | hh <;> simp_all [sameG, icmp]; done) | (rcases c48' with hh | hh | hh | hh <;> simp_all [sameG, icmp]; done) | (simp_all [sameG, icmp]; done) | rfl
    exact (by first | with_reducible rfl | rw [x50] | rfl)
  rw [Bool.not_eq_false'] at c48
  have c48' := c48
  refine wp_skip (hK43 _ _ ?_)
  refine wp_seq_k fun K51 hK51 => ?_
  refine wp_seq_k fun K52 hK52 => ?_
  refine wp_region_lit ?_
  refine q_is rfl rfl (does_fieldAddr (ev rfl) fa49_1) (by dsimp only [List.set]; try rfl) ?_
  refine q_is rfl rfl (does_load (u := (Fl r7)) (ev rfl) Try.isAgg39 (Cells.at (Blk.cells ((hB30.ext E38).ext E45)) 3 rfl)) (by dsimp only [List.set]; try rfl) ?_
  refine seqd rfl rfl (does_widen Try.underlying39 Try.underlying78 (ev rfl)) ?_; rintro _ w56 ⟨r53, rfl, h54, E55⟩
  have X57 := Ext.gr X47 E55
  show wpList _ _ _ _ (fr [_, _, _, _, _, _, _, _, _, _, _, _, _, _, _, _, _, _, _, _, _, _, _, _, _, _, _, _, _, _, _, _, _, _, _, _, _, _, _, _]) _
  refine q_is rfl rfl (does_fieldAddr (ev rfl) fa49_1) (by dsimp only [List.set]; try rfl) ?_
  refine q_is rfl rfl (does_load (u := (Fl r17)) (ev rfl) Try.isAgg39 (Cells.at (Blk.cells ((hB37.ext E45).ext E55)) 3 rfl)) (by dsimp only [List.set]; try rfl) ?_
  refine seqd rfl rfl (does_widen Try.underlying39 Try.underlying78 (ev rfl)) ?_; rintro _ w61 ⟨r58, rfl, h59, E60⟩
  have X62 := Ext.gr X57 E60
  show wpList _ _ _ _ (fr [_, _, _, _, _, _, _, _, _, _, _, _, _, _, _, _, _, _, _, _, _, _, _, _, _, _, _, _, _, _, _, _, _, _, _, _, _, _, _, _]) _
  refine seqd rfl rfl (does_call (args := #[(Fd r53), (Fd r58)]) cal43 (evs rfl) (c_laws_sameFloat r53 r58 _)) ?_; rintro _ w64 ⟨E63, rfl⟩
  have X65 := Ext.gr X62 E63
  show wpList _ _ _ _ (fr [_, _, _, _, _, _, _, _, _, _, _, _, _, _, _, _, _, _, _, _, _, _, _, _, _, _, _, _, _, _, _, _, _, _, _, _, _, _, _, _]) _
  refine q_is rfl rfl (does_not (ev rfl)) (by dsimp only [List.set]; try rfl) ?_
  refine wpList_nil (hK52 _ _ ?_)
  refine wp_cond_split (t := !(sameF (cf .f64 r53) (cf .f64 r58))) (ev rfl) (fun c66 => ?_) (fun c66 => ?_)
  · rw [Bool.not_eq_true'] at c66
    have c66' := c66
    refine wp_seq_k fun K67 hK67 => ?_
    refine wp_region_lit ?_
    refine q_is rfl rfl (does_assign (u := (Bo false)) (ev rfl)) (by dsimp only [List.set]; try rfl) ?_
    refine wpList_nil (hK67 _ _ ?_)
    refine wp_ret ?_
    dsimp only [Exit.then, Exit.inBlock]
    refine ret_val (v := (Bo false)) (res_T rfl (slot rfl)) X65 ?_
    try simp only [h2, h4, h6, h8, h12, h14, h16, h18, h54, h59] at c48 c66
    have x68 : (sameG A_a A_b) = false := by first | with_reducible rfl | (simp only [sameG, icmp, h2, h4, h6, h8, h12, h14, h16, h18, h54, h59, c48, c66]; done) | (simp [sameG, icmp, h2, h4, h6, h8, h12, h14, h16, h18, h54, h59, c48, c66]; done) | (revert c48 c66; simp +contextual [sameG, icmp, h2, h4, h6, h8, h12, h14, h16, h18, h54, h59]; done) | (rcases c48' with hh | hh <;> simp only [hh, sameG, icmp, h2, h4, h6, h8, h12, h14, h16, h18, h54, h59, c48, c66]; done) | (rcases c66' with hh | hh <;> simp only [hh, sameG, icmp, h2, h4, h6, h8, h12, h14, h16, h18, h54, h59, c48, c66]; done) | (rcases c66' with hh | hh <;> simp_all [sameG, icmp]; done) | (rcases c66' with hh | hh | hh <;> simp_all [sameG, icmp]; done) | (rcases c66' with hh | hh | hh | hh <;> simp_all [sameG, icmp]; done) | (simp_all [sameG, icmp]; done) | rfl
    exact (by first | with_reducible rfl | rw [x68] | rfl)
  rw [Bool.not_eq_false'] at c66
  have c66' := c66
  refine wp_skip (hK51 _ _ ?_)
  refine wp_seq_k fun K69 hK69 => ?_
  refine wp_seq_k fun K70 hK70 => ?_
  refine wp_region_lit ?_
  refine q_is rfl rfl (does_fieldAddr (ev rfl) fa49_2) (by dsimp only [List.set]; try rfl) ?_
  refine q_is rfl rfl (does_load (u := (Iv A_a.x)) (ev rfl) Try.isAgg2 (Cells.at (Blk.cells (((((hB30.ext E38).ext E45).ext E55).ext E60).ext E63)) 4 rfl)) (by dsimp only [List.set]; try rfl) ?_
  refine q_is rfl rfl (does_fieldAddr (ev rfl) fa49_2) (by dsimp only [List.set]; try rfl) ?_
  refine q_is rfl rfl (does_load (u := (Iv A_b.x)) (ev rfl) Try.isAgg2 (Cells.at (Blk.cells ((((hB37.ext E45).ext E55).ext E60).ext E63)) 4 rfl)) (by dsimp only [List.set]; try rfl) ?_
  refine q_is rfl rfl (does_icmp (p := A_a.x) (q := A_b.x) (.inr (.inl rfl)) (ev rfl) (ev rfl)) (by dsimp only [List.set]; try rfl) ?_
  refine wpList_nil (hK70 _ _ ?_)
  refine wp_cond_split (t := icmp .neq A_a.x A_b.x) (ev rfl) (fun c71 => ?_) (fun c71 => ?_)
  · have c71' := c71
    (try simp only [icmp, Bool.and_eq_true, Bool.or_eq_true, Bool.and_eq_false_iff, Bool.or_eq_false_iff, Bool.not_eq_true', Bool.not_eq_false', decide_eq_true_eq, decide_eq_false_iff_not, beq_iff_eq, bne_iff_ne, beq_eq_false_iff_ne, bne_eq_false_iff_eq] at c71')
    refine wp_seq_k fun K72 hK72 => ?_
    refine wp_region_lit ?_
    refine q_is rfl rfl (does_assign (u := (Bo false)) (ev rfl)) (by dsimp only [List.set]; try rfl) ?_
    refine wpList_nil (hK72 _ _ ?_)
    refine wp_ret ?_
    dsimp only [Exit.then, Exit.inBlock]
    refine ret_val (v := (Bo false)) (res_T rfl (slot rfl)) X65 ?_
    try simp only [h2, h4, h6, h8, h12, h14, h16, h18, h54, h59] at c48 c66 c71
    have x73 : (sameG A_a A_b) = false := by first | with_reducible rfl | (simp only [sameG, icmp, h2, h4, h6, h8, h12, h14, h16, h18, h54, h59, c48, c66, c71]; done) | (simp [sameG, icmp, h2, h4, h6, h8, h12, h14, h16, h18, h54, h59, c48, c66, c71]; done) | (revert c48 c66 c71; simp +contextual [sameG, icmp, h2, h4, h6, h8, h12, h14, h16, h18, h54, h59]; done) | (rcases c48' with hh | hh <;> simp only [hh, sameG, icmp, h2, h4, h6, h8, h12, h14, h16, h18, h54, h59, c48, c66, c71]; done) | (rcases c66' with hh | hh <;> simp only [hh, sameG, icmp, h2, h4, h6, h8, h12, h14, h16, h18, h54, h59, c48, c66, c71]; done) | (rcases c71' with hh | hh <;> simp only [hh, sameG, icmp, h2, h4, h6, h8, h12, h14, h16, h18, h54, h59, c48, c66, c71]; done) | (rcases c71' with hh | hh <;> simp_all [sameG, icmp]; done) | (rcases c71' with hh | hh | hh <;> simp_all [sameG, icmp]; done) | (rcases c71' with hh | hh | hh | hh <;> simp_all [sameG, icmp]; done) | (simp_all [sameG, icmp]; done) | rfl
    exact (by first | with_reducible rfl | rw [x73] | rfl)
  have c71' := c71
  (try simp only [icmp, Bool.and_eq_true, Bool.or_eq_true, Bool.and_eq_false_iff, Bool.or_eq_false_iff, Bool.not_eq_true', Bool.not_eq_false', decide_eq_true_eq, decide_eq_false_iff_not, beq_iff_eq, bne_iff_ne, beq_eq_false_iff_ne, bne_eq_false_iff_eq] at c71')
  refine wp_skip (hK69 _ _ ?_)
  refine wp_seq_k fun K74 hK74 => ?_
  refine wp_seq_k fun K75 hK75 => ?_
  refine wp_region_lit ?_
  refine q_is rfl rfl (does_fieldAddr (ev rfl) fa49_3) (by dsimp only [List.set]; try rfl) ?_
  refine q_is rfl rfl (does_load (u := (Iv A_a.y)) (ev rfl) Try.isAgg2 (Cells.at (Blk.cells (((((hB30.ext E38).ext E45).ext E55).ext E60).ext E63)) 5 rfl)) (by dsimp only [List.set]; try rfl) ?_
  refine q_is rfl rfl (does_fieldAddr (ev rfl) fa49_3) (by dsimp only [List.set]; try rfl) ?_
  refine q_is rfl rfl (does_load (u := (Iv A_b.y)) (ev rfl) Try.isAgg2 (Cells.at (Blk.cells ((((hB37.ext E45).ext E55).ext E60).ext E63)) 5 rfl)) (by dsimp only [List.set]; try rfl) ?_
  refine q_is rfl rfl (does_icmp (p := A_a.y) (q := A_b.y) (.inr (.inl rfl)) (ev rfl) (ev rfl)) (by dsimp only [List.set]; try rfl) ?_
  refine wpList_nil (hK75 _ _ ?_)
  refine wp_cond_split (t := icmp .neq A_a.y A_b.y) (ev rfl) (fun c76 => ?_) (fun c76 => ?_)
  · have c76' := c76
    (try simp only [icmp, Bool.and_eq_true, Bool.or_eq_true, Bool.and_eq_false_iff, Bool.or_eq_false_iff, Bool.not_eq_true', Bool.not_eq_false', decide_eq_true_eq, decide_eq_false_iff_not, beq_iff_eq, bne_iff_ne, beq_eq_false_iff_ne, bne_eq_false_iff_eq] at c76')
    refine wp_seq_k fun K77 hK77 => ?_
    refine wp_region_lit ?_
    refine q_is rfl rfl (does_assign (u := (Bo false)) (ev rfl)) (by dsimp only [List.set]; try rfl) ?_
    refine wpList_nil (hK77 _ _ ?_)
    refine wp_ret ?_
    dsimp only [Exit.then, Exit.inBlock]
    refine ret_val (v := (Bo false)) (res_T rfl (slot rfl)) X65 ?_
    try simp only [h2, h4, h6, h8, h12, h14, h16, h18, h54, h59] at c48 c66 c71 c76
    have x78 : (sameG A_a A_b) = false := by first | with_reducible rfl | (simp only [sameG, icmp, h2, h4, h6, h8, h12, h14, h16, h18, h54, h59, c48, c66, c71, c76]; done) | (simp [sameG, icmp, h2, h4, h6, h8, h12, h14, h16, h18, h54, h59, c48, c66, c71, c76]; done) | (revert c48 c66 c71 c76; simp +contextual [sameG, icmp, h2, h4, h6, h8, h12, h14, h16, h18, h54, h59]; done) | (rcases c48' with hh | hh <;> simp only [hh, sameG, icmp, h2, h4, h6, h8, h12, h14, h16, h18, h54, h59, c48, c66, c71, c76]; done) | (rcases c66' with hh | hh <;> simp only [hh, sameG, icmp, h2, h4, h6, h8, h12, h14, h16, h18, h54, h59, c48, c66, c71, c76]; done) | (rcases c71' with hh | hh <;> simp only [hh, sameG, icmp, h2, h4, h6, h8, h12, h14, h16, h18, h54, h59, c48, c66, c71, c76]; done) | (rcases c76' with hh | hh <;> simp only [hh, sameG, icmp, h2, h4, h6, h8, h12, h14, h16, h18, h54, h59, c48, c66, c71, c76]; done) | (rcases c76' with hh | hh <;> simp_all [sameG, icmp]; done) | (rcases c76' with hh | hh | hh <;> simp_all [sameG, icmp]; done) | (rcases c76' with hh | hh | hh | hh <;> simp_all [sameG, icmp]; done) | (simp_all [sameG, icmp]; done) | rfl
    exact (by first | with_reducible rfl | rw [x78] | rfl)
  have c76' := c76
  (try simp only [icmp, Bool.and_eq_true, Bool.or_eq_true, Bool.and_eq_false_iff, Bool.or_eq_false_iff, Bool.not_eq_true', Bool.not_eq_false', decide_eq_true_eq, decide_eq_false_iff_not, beq_iff_eq, bne_iff_ne, beq_eq_false_iff_ne, bne_eq_false_iff_eq] at c76')
  refine wp_skip (hK74 _ _ ?_)
  refine wp_seq_k fun K79 hK79 => ?_
  refine wp_seq_k fun K80 hK80 => ?_
  refine wp_region_lit ?_
  refine q_is rfl rfl (does_fieldAddr (ev rfl) fa49_4) (by dsimp only [List.set]; try rfl) ?_
  refine q_is rfl rfl (does_load (u := (Iv A_a.z)) (ev rfl) Try.isAgg2 (Cells.at (Blk.cells (((((hB30.ext E38).ext E45).ext E55).ext E60).ext E63)) 6 rfl)) (by dsimp only [List.set]; try rfl) ?_
  refine q_is rfl rfl (does_fieldAddr (ev rfl) fa49_4) (by dsimp only [List.set]; try rfl) ?_
  refine q_is rfl rfl (does_load (u := (Iv A_b.z)) (ev rfl) Try.isAgg2 (Cells.at (Blk.cells ((((hB37.ext E45).ext E55).ext E60).ext E63)) 6 rfl)) (by dsimp only [List.set]; try rfl) ?_
  refine q_is rfl rfl (does_icmp (p := A_a.z) (q := A_b.z) (.inr (.inl rfl)) (ev rfl) (ev rfl)) (by dsimp only [List.set]; try rfl) ?_
  refine wpList_nil (hK80 _ _ ?_)
  refine wp_cond_split (t := icmp .neq A_a.z A_b.z) (ev rfl) (fun c81 => ?_) (fun c81 => ?_)
  · have c81' := c81
    (try simp only [icmp, Bool.and_eq_true, Bool.or_eq_true, Bool.and_eq_false_iff, Bool.or_eq_false_iff, Bool.not_eq_true', Bool.not_eq_false', decide_eq_true_eq, decide_eq_false_iff_not, beq_iff_eq, bne_iff_ne, beq_eq_false_iff_ne, bne_eq_false_iff_eq] at c81')
    refine wp_seq_k fun K82 hK82 => ?_
    refine wp_region_lit ?_
    refine q_is rfl rfl (does_assign (u := (Bo false)) (ev rfl)) (by dsimp only [List.set]; try rfl) ?_
    refine wpList_nil (hK82 _ _ ?_)
    refine wp_ret ?_
    dsimp only [Exit.then, Exit.inBlock]
    refine ret_val (v := (Bo false)) (res_T rfl (slot rfl)) X65 ?_
    try simp only [h2, h4, h6, h8, h12, h14, h16, h18, h54, h59] at c48 c66 c71 c76 c81
    have x83 : (sameG A_a A_b) = false := by first | with_reducible rfl | (simp only [sameG, icmp, h2, h4, h6, h8, h12, h14, h16, h18, h54, h59, c48, c66, c71, c76, c81]; done) | (simp [sameG, icmp, h2, h4, h6, h8, h12, h14, h16, h18, h54, h59, c48, c66, c71, c76, c81]; done) | (revert c48 c66 c71 c76 c81; simp +contextual [sameG, icmp, h2, h4, h6, h8, h12, h14, h16, h18, h54, h59]; done) | (rcases c48' with hh | hh <;> simp only [hh, sameG, icmp, h2, h4, h6, h8, h12, h14, h16, h18, h54, h59, c48, c66, c71, c76, c81]; done) | (rcases c66' with hh | hh <;> simp only [hh, sameG, icmp, h2, h4, h6, h8, h12, h14, h16, h18, h54, h59, c48, c66, c71, c76, c81]; done) | (rcases c71' with hh | hh <;> simp only [hh, sameG, icmp, h2, h4, h6, h8, h12, h14, h16, h18, h54, h59, c48, c66, c71, c76, c81]; done) | (rcases c76' with hh | hh <;> simp only [hh, sameG, icmp, h2, h4, h6, h8, h12, h14, h16, h18, h54, h59, c48, c66, c71, c76, c81]; done) | (rcases c81' with hh | hh <;> simp only [hh, sameG, icmp, h2, h4, h6, h8, h12, h14, h16, h18, h54, h59, c48, c66, c71, c76, c81]; done) | (rcases c81' with hh | hh <;> simp_all [sameG, icmp]; done) | (rcases c81' with hh | hh | hh <;> simp_all [sameG, icmp]; done) | (rcases c81' with hh | hh | hh | hh <;> simp_all [sameG, icmp]; done) | (simp_all [sameG, icmp]; done) | rfl
    exact (by first | with_reducible rfl | rw [x83] | rfl)
  have c81' := c81
  (try simp only [icmp, Bool.and_eq_true, Bool.or_eq_true, Bool.and_eq_false_iff, Bool.or_eq_false_iff, Bool.not_eq_true', Bool.not_eq_false', decide_eq_true_eq, decide_eq_false_iff_not, beq_iff_eq, bne_iff_ne, beq_eq_false_iff_ne, bne_eq_false_iff_eq] at c81')
  refine wp_skip (hK79 _ _ ?_)
  refine wp_seq_k fun K84 hK84 => ?_
  refine wp_seq_k fun K85 hK85 => ?_
  refine wp_region_lit ?_
  refine q_is rfl rfl (does_fieldAddr (ev rfl) fa49_5) (by dsimp only [List.set]; try rfl) ?_
  refine q_is rfl rfl (does_load (u := (.slice p21 A_a.vals.length q22)) (ev rfl) Try.isAgg42 (Cells.at (Blk.cells (((((hB30.ext E38).ext E45).ext E55).ext E60).ext E63)) 7 rfl)) (by dsimp only [List.set]; try rfl) ?_
  refine q_is rfl rfl (does_fieldAddr (ev rfl) fa49_5) (by dsimp only [List.set]; try rfl) ?_
  refine q_is rfl rfl (does_load (u := (.slice p24 A_b.vals.length q25)) (ev rfl) Try.isAgg42 (Cells.at (Blk.cells ((((hB37.ext E45).ext E55).ext E60).ext E63)) 7 rfl)) (by dsimp only [List.set]; try rfl) ?_
  refine seqd rfl rfl (does_call (args := #[(.slice p21 A_a.vals.length q22), (.slice p24 A_b.vals.length q25)]) cal44 (evs rfl) (c_laws_eqFloat32S (.slice p21 A_a.vals.length q22) A_a.vals (.slice p24 A_b.vals.length q25) A_b.vals _ (Sl.ext hs23 RF.mono X65) (Sl.ext hs26 RF.mono X65))) ?_; rintro _ w87 ⟨E86, rfl⟩
  have X88 := Ext.gr X65 E86
  show wpList _ _ _ _ (fr [_, _, _, _, _, _, _, _, _, _, _, _, _, _, _, _, _, _, _, _, _, _, _, _, _, _, _, _, _, _, _, _, _, _, _, _, _, _, _, _]) _
  refine q_is rfl rfl (does_not (ev rfl)) (by dsimp only [List.set]; try rfl) ?_
  refine wpList_nil (hK85 _ _ ?_)
  refine wp_cond_split (t := !(sameL A_a.vals A_b.vals)) (ev rfl) (fun c89 => ?_) (fun c89 => ?_)
  · rw [Bool.not_eq_true'] at c89
    have c89' := c89
    refine wp_seq_k fun K90 hK90 => ?_
    refine wp_region_lit ?_
    refine q_is rfl rfl (does_assign (u := (Bo false)) (ev rfl)) (by dsimp only [List.set]; try rfl) ?_
    refine wpList_nil (hK90 _ _ ?_)
    refine wp_ret ?_
    dsimp only [Exit.then, Exit.inBlock]
    refine ret_val (v := (Bo false)) (res_T rfl (slot rfl)) X88 ?_
    try simp only [h2, h4, h6, h8, h12, h14, h16, h18, h54, h59] at c48 c66 c71 c76 c81 c89
    have x91 : (sameG A_a A_b) = false := by first | with_reducible rfl | (simp only [sameG, icmp, h2, h4, h6, h8, h12, h14, h16, h18, h54, h59, c48, c66, c71, c76, c81, c89]; done) | (simp [sameG, icmp, h2, h4, h6, h8, h12, h14, h16, h18, h54, h59, c48, c66, c71, c76, c81, c89]; done) | (revert c48 c66 c71 c76 c81 c89; simp +contextual [sameG, icmp, h2, h4, h6, h8, h12, h14, h16, h18, h54, h59]; done) | (rcases c48' with hh | hh <;> simp only [hh, sameG, icmp, h2, h4, h6, h8, h12, h14, h16, h18, h54, h59, c48, c66, c71, c76, c81, c89]; done) | (rcases c66' with hh | hh <;> simp only [hh, sameG, icmp, h2, h4, h6, h8, h12, h14, h16, h18, h54, h59, c48, c66, c71, c76, c81, c89]; done) | (rcases c71' with hh | hh <;> simp only [hh, sameG, icmp, h2, h4, h6, h8, h12, h14, h16, h18, h54, h59, c48, c66, c71, c76, c81, c89]; done) | (rcases c76' with hh | hh <;> simp only [hh, sameG, icmp, h2, h4, h6, h8, h12, h14, h16, h18, h54, h59, c48, c66, c71, c76, c81, c89]; done) | (rcases c81' with hh | hh <;> simp only [hh, sameG, icmp, h2, h4, h6, h8, h12, h14, h16, h18, h54, h59, c48, c66, c71, c76, c81, c89]; done) | (rcases c89' with hh | hh <;> simp only [hh, sameG, icmp, h2, h4, h6, h8, h12, h14, h16, h18, h54, h59, c48, c66, c71, c76, c81, c89]; done) | (rcases c89' with hh | hh <;> simp_all [sameG, icmp]; done) | (rcases c89' with hh | hh | hh <;> simp_all [sameG, icmp]; done) | (rcases c89' with hh | hh | hh | hh <;> simp_all [sameG, icmp]; done) | (simp_all [sameG, icmp]; done) | rfl
    exact (by first | with_reducible rfl | rw [x91] | rfl)
  rw [Bool.not_eq_false'] at c89
  have c89' := c89
  refine wp_skip (hK84 _ _ ?_)
  refine wp_seq_k fun K92 hK92 => ?_
  refine wp_region_lit ?_
  refine q_is rfl rfl (does_assign (u := (Bo true)) (ev rfl)) (by dsimp only [List.set]; try rfl) ?_
  refine wpList_nil (hK92 _ _ ?_)
  refine wp_ret ?_
  refine ret_val (v := (Bo true)) (res_T rfl (slot rfl)) X88 ?_
  try simp only [h2, h4, h6, h8, h12, h14, h16, h18, h54, h59] at c48 c66 c71 c76 c81 c89
  have x93 : (sameG A_a A_b) = true := by first | with_reducible rfl | (simp only [sameG, icmp, h2, h4, h6, h8, h12, h14, h16, h18, h54, h59, c48, c66, c71, c76, c81, c89]; done) | (simp [sameG, icmp, h2, h4, h6, h8, h12, h14, h16, h18, h54, h59, c48, c66, c71, c76, c81, c89]; done) | (revert c48 c66 c71 c76 c81 c89; simp +contextual [sameG, icmp, h2, h4, h6, h8, h12, h14, h16, h18, h54, h59]; done) | (rcases c48' with hh | hh <;> simp only [hh, sameG, icmp, h2, h4, h6, h8, h12, h14, h16, h18, h54, h59, c48, c66, c71, c76, c81, c89]; done) | (rcases c66' with hh | hh <;> simp only [hh, sameG, icmp, h2, h4, h6, h8, h12, h14, h16, h18, h54, h59, c48, c66, c71, c76, c81, c89]; done) | (rcases c71' with hh | hh <;> simp only [hh, sameG, icmp, h2, h4, h6, h8, h12, h14, h16, h18, h54, h59, c48, c66, c71, c76, c81, c89]; done) | (rcases c76' with hh | hh <;> simp only [hh, sameG, icmp, h2, h4, h6, h8, h12, h14, h16, h18, h54, h59, c48, c66, c71, c76, c81, c89]; done) | (rcases c81' with hh | hh <;> simp only [hh, sameG, icmp, h2, h4, h6, h8, h12, h14, h16, h18, h54, h59, c48, c66, c71, c76, c81, c89]; done) | (rcases c89' with hh | hh <;> simp only [hh, sameG, icmp, h2, h4, h6, h8, h12, h14, h16, h18, h54, h59, c48, c66, c71, c76, c81, c89]; done) | (rcases c89' with hh | hh <;> simp_all [sameG, icmp]; done) | (rcases c89' with hh | hh | hh <;> simp_all [sameG, icmp]; done) | (rcases c89' with hh | hh | hh | hh <;> simp_all [sameG, icmp]; done) | (simp_all [sameG, icmp]; done) | rfl
  exact (by first | with_reducible rfl | rw [x93] | rfl)

theorem c_laws_markFloat32S_nil (k : Int) (w : World) : Gives Try.prog 45 #[.slice none 0 0, Iv k] w (fun v _ => v = Iv k) := by
  refine enter [(.slice none 0 0), (Iv k), Ud, Ud, Ud, Ud, Ud, Ud, Ud, Ud, Ud, Ud, Ud, Ud, Ud, Ud, Ud, Ud, Ud, Ud] Try.func45 rfl Try.ntmps45 rfl ?_
  refine wp_seq_k fun K1 hK1 => ?_
  refine wp_region_lit ?_
  refine q_is (l' := [(.slice none 0 0), (Iv k), Ud, Ud, (Iv 0), Ud, Ud, Ud, Ud, Ud, Ud, Ud, Ud, Ud, Ud, Ud, Ud, Ud, Ud, Ud]) rfl rfl (does_assign (u := (Iv 0)) (ev rfl)) rfl ?_
  refine wpList_nil (hK1 _ _ ?_)
  refine wp_seq_k fun K2 hK2 => ?_
  refine wp_seq_k fun K3 hK3 => ?_
  refine wp_region_lit ?_
  refine q_is (l' := [(.slice none 0 0), (Iv k), Ud, Ud, (Iv 0), (Iv 0), Ud, Ud, Ud, Ud, Ud, Ud, Ud, Ud, Ud, Ud, Ud, Ud, Ud, Ud]) rfl rfl (does_assign (u := (Iv 0)) (ev rfl)) rfl ?_
  refine wpList_nil (hK3 _ _ ?_)
  refine wp_block ?_
  refine loop_unroll 1 ?_
  refine un_step ?_
  refine wp_seq_k fun K4 hK4 => ?_
  refine wp_seq_k fun K5 hK5 => ?_
  refine wp_region_lit ?_
  refine q_is (l' := [(.slice none 0 0), (Iv k), Ud, Ud, (Iv 0), (Iv 0), (Iv 0), Ud, Ud, Ud, Ud, Ud, Ud, Ud, Ud, Ud, Ud, Ud, Ud, Ud]) rfl rfl (does_move (u := (Iv 0)) (ev rfl)) rfl ?_
  refine q_is (l' := [(.slice none 0 0), (Iv k), Ud, Ud, (Iv 0), (Iv 0), (Iv 0), (.slice none 0 0), Ud, Ud, Ud, Ud, Ud, Ud, Ud, Ud, Ud, Ud, Ud, Ud]) rfl rfl (does_move (u := (.slice none 0 0)) (ev rfl)) rfl ?_
  refine q_is (l' := [(.slice none 0 0), (Iv k), Ud, Ud, (Iv 0), (Iv 0), (Iv 0), (.slice none 0 0), (Iv 0), Ud, Ud, Ud, Ud, Ud, Ud, Ud, Ud, Ud, Ud, Ud]) rfl rfl (does_len_slice Try.underlying42 (ev rfl)) rfl ?_
  refine q_is (l' := [(.slice none 0 0), (Iv k), Ud, Ud, (Iv 0), (Iv 0), (Iv 0), (.slice none 0 0), (Iv 0), (Bo false), Ud, Ud, Ud, Ud, Ud, Ud, Ud, Ud, Ud, Ud]) rfl rfl (does_icmp (p := 0) (q := 0) (.inr (.inr (.inl rfl))) (ev rfl) (ev rfl)) rfl ?_
  refine wpList_nil (hK5 _ _ ?_)
  refine wp_cond_false (ev rfl) ?_
  refine wp_exit ?_
  refine hK2 _ _ ?_
  refine wp_seq_k fun K6 hK6 => ?_
  refine wp_region_lit ?_
  refine q_is (l' := [(.slice none 0 0), (Iv k), Ud, Ud, (Iv 0), (Iv 0), (Iv 0), (.slice none 0 0), (Iv 0), (Bo false), Ud, Ud, Ud, Ud, Ud, Ud, Ud, Ud, Ud, (Iv k)]) rfl rfl (does_move (u := (Iv k)) (ev rfl)) rfl ?_
  refine q_is (l' := [(.slice none 0 0), (Iv k), Ud, Ud, (Iv k), (Iv 0), (Iv 0), (.slice none 0 0), (Iv 0), (Bo false), Ud, Ud, Ud, Ud, Ud, Ud, Ud, Ud, Ud, (Iv k)]) rfl rfl (does_assign (u := (Iv k)) (ev rfl)) rfl ?_
  refine wpList_nil (hK6 _ _ ?_)
  refine wp_ret ?_
  refine ret_val (v := (Iv k)) (res_T rfl (slot rfl)) (Ext.refl w) ?_
  have x7 : (k : Int) = k := by first | with_reducible rfl | (simp only []; done) | (simp []; done) | rfl
  exact (by first | with_reducible rfl | rw [x7] | rfl)

theorem c_laws_markFloat32S_blk (g N n cap : Nat) (k : Int) (w : World) (hM : Mk true k w g N 0) (hn : n * 1 ≤ N) (h0 : 0 ≤ k) (h1 : k + (n : Int) * 1 ≤ 4611686018427387904) : GivesK [g] Try.prog 45 #[.slice (some ⟨g, 0, none⟩) n cap, Iv k] w (fun v w' => v = Iv (k + (n : Int) * 1) ∧ Mk true k w' g N (n * 1)) := by
  refine enterK [(.slice (some ⟨g, 0, none⟩) n cap), (Iv k), Ud, Ud, Ud, Ud, Ud, Ud, Ud, Ud, Ud, Ud, Ud, Ud, Ud, Ud, Ud, Ud, Ud, Ud] Try.func45 rfl Try.ntmps45 rfl ?_
  refine wp_seq_k fun K1 hK1 => ?_
  refine wp_region_lit ?_
  refine q_is (l' := [(.slice (some ⟨g, 0, none⟩) n cap), (Iv k), Ud, Ud, (Iv 0), Ud, Ud, Ud, Ud, Ud, Ud, Ud, Ud, Ud, Ud, Ud, Ud, Ud, Ud, Ud]) rfl rfl (does_assign (u := (Iv 0)) (ev rfl)) rfl ?_
  refine wpList_nil (hK1 _ _ ?_)
  refine wp_seq_k fun K2 hK2 => ?_
  refine wp_seq_k fun K3 hK3 => ?_
  refine wp_region_lit ?_
  refine q_is (l' := [(.slice (some ⟨g, 0, none⟩) n cap), (Iv k), Ud, Ud, (Iv 0), (Iv 0), Ud, Ud, Ud, Ud, Ud, Ud, Ud, Ud, Ud, Ud, Ud, Ud, Ud, Ud]) rfl rfl (does_assign (u := (Iv 0)) (ev rfl)) rfl ?_
  refine wpList_nil (hK3 _ _ ?_)
  refine wp_block ?_
  refine loop_ghost (σ := Nat × Int) (fun s a w' => ∃ u4 : Nat → Value, a = fr [(.slice (some ⟨g, 0, none⟩) n cap), (Iv s.2), Ud, Ud, (Iv 0), (Iv (s.1 : Int)), (u4 6), (u4 7), (u4 8), (u4 9), (u4 10), (u4 11), (u4 12), (u4 13), (u4 14), (u4 15), (u4 16), (u4 17), (u4 18), Ud] ∧ KpL [g] w w' ∧ Mk true k w' g N (s.1 * 1) ∧ (s.1 ≤ n ∧ s.2 = k + (s.1 : Int) * 1)) (fun s => n - s.1) (0, k) ?_ ?_
  · refine ⟨fun t => (([(.slice (some ⟨g, 0, none⟩) n cap), (Iv k), Ud, Ud, (Iv 0), (Iv 0), Ud, Ud, Ud, Ud, Ud, Ud, Ud, Ud, Ud, Ud, Ud, Ud, Ud, Ud] : List Value)[t]?).getD undef, rfl, KpL.refl _ _, (Mk.cast hM (by simp)), ?_⟩
    exact ⟨Nat.zero_le _, by simp⟩
  · rintro s a w5 ⟨u4, rfl, E6, hF7, ⟨hk, hn2⟩⟩
    have X8 := KpL.more (KpL.refl [g] w) E6 (allS (.inl (by simp)) all0)
    refine wp_seq_k fun K9 hK9 => ?_
    refine wp_seq_k fun K10 hK10 => ?_
    refine wp_region_lit ?_
    refine q_is (l' := [(.slice (some ⟨g, 0, none⟩) n cap), (Iv s.2), Ud, Ud, (Iv 0), (Iv (s.1 : Int)), (Iv (s.1 : Int)), (u4 7), (u4 8), (u4 9), (u4 10), (u4 11), (u4 12), (u4 13), (u4 14), (u4 15), (u4 16), (u4 17), (u4 18), Ud]) rfl rfl (does_move (u := (Iv (s.1 : Int))) (ev rfl)) rfl ?_
    refine q_is (l' := [(.slice (some ⟨g, 0, none⟩) n cap), (Iv s.2), Ud, Ud, (Iv 0), (Iv (s.1 : Int)), (Iv (s.1 : Int)), (.slice (some ⟨g, 0, none⟩) n cap), (u4 8), (u4 9), (u4 10), (u4 11), (u4 12), (u4 13), (u4 14), (u4 15), (u4 16), (u4 17), (u4 18), Ud]) rfl rfl (does_move (u := (.slice (some ⟨g, 0, none⟩) n cap)) (ev rfl)) rfl ?_
    refine q_is (l' := [(.slice (some ⟨g, 0, none⟩) n cap), (Iv s.2), Ud, Ud, (Iv 0), (Iv (s.1 : Int)), (Iv (s.1 : Int)), (.slice (some ⟨g, 0, none⟩) n cap), (Iv (n : Int)), (u4 9), (u4 10), (u4 11), (u4 12), (u4 13), (u4 14), (u4 15), (u4 16), (u4 17), (u4 18), Ud]) rfl rfl (does_len_slice Try.underlying42 (ev rfl)) rfl ?_
    refine q_is (l' := [(.slice (some ⟨g, 0, none⟩) n cap), (Iv s.2), Ud, Ud, (Iv 0), (Iv (s.1 : Int)), (Iv (s.1 : Int)), (.slice (some ⟨g, 0, none⟩) n cap), (Iv (n : Int)), (Bo (icmp .lss (s.1 : Int) (n : Int))), (u4 10), (u4 11), (u4 12), (u4 13), (u4 14), (u4 15), (u4 16), (u4 17), (u4 18), Ud]) rfl rfl (does_icmp (p := (s.1 : Int)) (q := (n : Int)) (.inr (.inr (.inl rfl))) (ev rfl) (ev rfl)) rfl ?_
    refine wpList_nil (hK10 _ _ ?_)
    refine wp_cond_split (t := icmp .lss (s.1 : Int) (n : Int)) (ev rfl) (fun c11 => ?_) (fun c11 => ?_)
    · have c11' := c11
      (try simp only [icmp, Bool.and_eq_true, Bool.or_eq_true, Bool.and_eq_false_iff, Bool.or_eq_false_iff, Bool.not_eq_true', Bool.not_eq_false', decide_eq_true_eq, decide_eq_false_iff_not, beq_iff_eq, bne_iff_ne, beq_eq_false_iff_ne, bne_eq_false_iff_eq] at c11')
      refine wp_skip (hK9 _ _ ?_)
      refine wp_seq_k fun K12 hK12 => ?_
      refine wp_block ?_
      refine wp_seq_k fun K13 hK13 => ?_
      refine wp_region_lit ?_
      refine q_is (l' := [(.slice (some ⟨g, 0, none⟩) n cap), (Iv s.2), Ud, Ud, (Iv 0), (Iv (s.1 : Int)), (Iv (s.1 : Int)), (.slice (some ⟨g, 0, none⟩) n cap), (Iv (n : Int)), (Bo (icmp .lss (s.1 : Int) (n : Int))), (u4 10), (u4 11), (.slice (some ⟨g, 0, none⟩) n cap), (u4 13), (u4 14), (u4 15), (u4 16), (u4 17), (u4 18), Ud]) rfl rfl (does_move (u := (.slice (some ⟨g, 0, none⟩) n cap)) (ev rfl)) rfl ?_
      refine q_is (l' := [(.slice (some ⟨g, 0, none⟩) n cap), (Iv s.2), Ud, Ud, (Iv 0), (Iv (s.1 : Int)), (Iv (s.1 : Int)), (.slice (some ⟨g, 0, none⟩) n cap), (Iv (n : Int)), (Bo (icmp .lss (s.1 : Int) (n : Int))), (u4 10), (u4 11), (.slice (some ⟨g, 0, none⟩) n cap), (Iv (s.1 : Int)), (u4 14), (u4 15), (u4 16), (u4 17), (u4 18), Ud]) rfl rfl (does_move (u := (Iv (s.1 : Int))) (ev rfl)) rfl ?_
      refine q_is (l' := [(.slice (some ⟨g, 0, none⟩) n cap), (Iv s.2), Ud, Ud, (Iv 0), (Iv (s.1 : Int)), (Iv (s.1 : Int)), (.slice (some ⟨g, 0, none⟩) n cap), (Iv (n : Int)), (Bo (icmp .lss (s.1 : Int) (n : Int))), (u4 10), (u4 11), (.slice (some ⟨g, 0, none⟩) n cap), (Iv (s.1 : Int)), (Iv s.2), (u4 15), (u4 16), (u4 17), (u4 18), Ud]) rfl rfl (does_move (u := (Iv s.2)) (ev rfl)) rfl ?_
      refine q_is (l' := [(.slice (some ⟨g, 0, none⟩) n cap), (Iv s.2), Ud, Ud, (Iv 0), (Iv (s.1 : Int)), (Iv (s.1 : Int)), (.slice (some ⟨g, 0, none⟩) n cap), (Iv (n : Int)), (Bo (icmp .lss (s.1 : Int) (n : Int))), (u4 10), (u4 11), (.slice (some ⟨g, 0, none⟩) n cap), (Iv (s.1 : Int)), (Iv s.2), (Fl (FloatKind.f32.nearest s.2)), (u4 16), (u4 17), (u4 18), Ud]) rfl rfl (does_conv_if (k := .f32) Try.underlying3 Try.underlying39 (ev rfl)) rfl ?_
      refine q_is (l' := [(.slice (some ⟨g, 0, none⟩) n cap), (Iv s.2), Ud, Ud, (Iv 0), (Iv (s.1 : Int)), (Iv (s.1 : Int)), (.slice (some ⟨g, 0, none⟩) n cap), (Iv (n : Int)), (Bo (icmp .lss (s.1 : Int) (n : Int))), (u4 10), (u4 11), (.slice (some ⟨g, 0, none⟩) n cap), (Iv (s.1 : Int)), (Iv s.2), (Fl (FloatKind.f32.nearest s.2)), (Pt g (s.1 * 1)), (u4 17), (u4 18), Ud]) rfl rfl (does_indexOwn (b := g) (n := n) (i := (s.1 : Int)) Try.underlying42 Try.sizeOf39 (ev rfl) (ev rfl) (by omega) (by omega)) rfl ?_
      refine seqn rfl rfl (does_mark (fl := true) (k := k) (N := N) (off := s.1 * 1) (j := s.1 * 1) (u := (Fl (FloatKind.f32.nearest s.2))) (ev rfl) (ev rfl) Try.sizeOf39 (mkc_f (by first | rfl | omega)) (by omega) (by omega) hF7) ?_; rintro _ w16 ⟨rfl, W14, hM15⟩
      have X17 := KpL.more X8 (KpL.of_wr W14) (allS (.inl (by simp)) all0)
      refine wpList_nil (hK13 _ _ ?_)
      refine wp_region_lit ?_
      refine q_is (l' := [(.slice (some ⟨g, 0, none⟩) n cap), (Iv s.2), Ud, Ud, (Iv 0), (Iv (s.1 : Int)), (Iv (s.1 : Int)), (.slice (some ⟨g, 0, none⟩) n cap), (Iv (n : Int)), (Bo (icmp .lss (s.1 : Int) (n : Int))), (u4 10), (u4 11), (.slice (some ⟨g, 0, none⟩) n cap), (Iv (s.1 : Int)), (Iv s.2), (Fl (FloatKind.f32.nearest s.2)), (Pt g (s.1 * 1)), (Iv s.2), (u4 18), Ud]) rfl rfl (does_move (u := (Iv s.2)) (ev rfl)) rfl ?_
      refine q_is (l' := [(.slice (some ⟨g, 0, none⟩) n cap), (Iv s.2), Ud, Ud, (Iv 0), (Iv (s.1 : Int)), (Iv (s.1 : Int)), (.slice (some ⟨g, 0, none⟩) n cap), (Iv (n : Int)), (Bo (icmp .lss (s.1 : Int) (n : Int))), (u4 10), (u4 11), (.slice (some ⟨g, 0, none⟩) n cap), (Iv (s.1 : Int)), (Iv s.2), (Fl (FloatKind.f32.nearest s.2)), (Pt g (s.1 * 1)), (Iv s.2), (Iv (s.2 + 1)), Ud]) rfl rfl (does_iarith (p := s.2) (q := 1) (r := s.2 + 1) (ev rfl) (ev rfl) (.inl ⟨rfl, (in_i64 (by omega) (by omega)).symm⟩)) rfl ?_
      refine q_is (l' := [(.slice (some ⟨g, 0, none⟩) n cap), (Iv (s.2 + 1)), Ud, Ud, (Iv 0), (Iv (s.1 : Int)), (Iv (s.1 : Int)), (.slice (some ⟨g, 0, none⟩) n cap), (Iv (n : Int)), (Bo (icmp .lss (s.1 : Int) (n : Int))), (u4 10), (u4 11), (.slice (some ⟨g, 0, none⟩) n cap), (Iv (s.1 : Int)), (Iv s.2), (Fl (FloatKind.f32.nearest s.2)), (Pt g (s.1 * 1)), (Iv s.2), (Iv (s.2 + 1)), Ud]) rfl rfl (does_assign (u := (Iv (s.2 + 1))) (ev rfl)) rfl ?_
      refine wpList_nil (hK12 _ _ ?_)
      refine wp_region_lit ?_
      refine q_is (l' := [(.slice (some ⟨g, 0, none⟩) n cap), (Iv (s.2 + 1)), Ud, Ud, (Iv 0), (Iv (s.1 : Int)), (Iv (s.1 : Int)), (.slice (some ⟨g, 0, none⟩) n cap), (Iv (n : Int)), (Bo (icmp .lss (s.1 : Int) (n : Int))), (Iv (s.1 : Int)), (u4 11), (.slice (some ⟨g, 0, none⟩) n cap), (Iv (s.1 : Int)), (Iv s.2), (Fl (FloatKind.f32.nearest s.2)), (Pt g (s.1 * 1)), (Iv s.2), (Iv (s.2 + 1)), Ud]) rfl rfl (does_move (u := (Iv (s.1 : Int))) (ev rfl)) rfl ?_
      refine q_is (l' := [(.slice (some ⟨g, 0, none⟩) n cap), (Iv (s.2 + 1)), Ud, Ud, (Iv 0), (Iv (s.1 : Int)), (Iv (s.1 : Int)), (.slice (some ⟨g, 0, none⟩) n cap), (Iv (n : Int)), (Bo (icmp .lss (s.1 : Int) (n : Int))), (Iv (s.1 : Int)), (Iv ((s.1 : Int) + 1)), (.slice (some ⟨g, 0, none⟩) n cap), (Iv (s.1 : Int)), (Iv s.2), (Fl (FloatKind.f32.nearest s.2)), (Pt g (s.1 * 1)), (Iv s.2), (Iv (s.2 + 1)), Ud]) rfl rfl (does_iarith (p := (s.1 : Int)) (q := 1) (r := (s.1 : Int) + 1) (ev rfl) (ev rfl) (.inl ⟨rfl, (in_i64 (by omega) (by omega)).symm⟩)) rfl ?_
      refine q_is (l' := [(.slice (some ⟨g, 0, none⟩) n cap), (Iv (s.2 + 1)), Ud, Ud, (Iv 0), (Iv ((s.1 : Int) + 1)), (Iv (s.1 : Int)), (.slice (some ⟨g, 0, none⟩) n cap), (Iv (n : Int)), (Bo (icmp .lss (s.1 : Int) (n : Int))), (Iv (s.1 : Int)), (Iv ((s.1 : Int) + 1)), (.slice (some ⟨g, 0, none⟩) n cap), (Iv (s.1 : Int)), (Iv s.2), (Fl (FloatKind.f32.nearest s.2)), (Pt g (s.1 * 1)), (Iv s.2), (Iv (s.2 + 1)), Ud]) rfl rfl (does_assign (u := (Iv ((s.1 : Int) + 1))) (ev rfl)) rfl ?_
      refine wpList_nil ?_
      refine ⟨(s.1 + 1, s.2 + 1), ⟨fun t => (([(.slice (some ⟨g, 0, none⟩) n cap), (Iv (s.2 + 1)), Ud, Ud, (Iv 0), (Iv ((s.1 : Int) + 1)), (Iv (s.1 : Int)), (.slice (some ⟨g, 0, none⟩) n cap), (Iv (n : Int)), (Bo (icmp .lss (s.1 : Int) (n : Int))), (Iv (s.1 : Int)), (Iv ((s.1 : Int) + 1)), (.slice (some ⟨g, 0, none⟩) n cap), (Iv (s.1 : Int)), (Iv s.2), (Fl (FloatKind.f32.nearest s.2)), (Pt g (s.1 * 1)), (Iv s.2), (Iv (s.2 + 1)), Ud] : List Value)[t]?).getD undef, ?_, (KpL.more E6 (KpL.of_wr W14) (allS (.inl (by simp)) all0)), (Mk.cast hM15 (by (try dsimp only); omega)), ?_⟩, ?_⟩
      · first | rfl | (simp only [Int.natCast_add, Int.natCast_one]; rfl)
      · (try dsimp only); exact ⟨by omega, by omega⟩
      · (try dsimp only); omega
    have c11' := c11
    (try simp only [icmp, Bool.and_eq_true, Bool.or_eq_true, Bool.and_eq_false_iff, Bool.or_eq_false_iff, Bool.not_eq_true', Bool.not_eq_false', decide_eq_true_eq, decide_eq_false_iff_not, beq_iff_eq, bne_iff_ne, beq_eq_false_iff_ne, bne_eq_false_iff_eq] at c11')
    refine wp_exit ?_
    refine hK2 _ _ ?_
    refine wp_seq_k fun K18 hK18 => ?_
    refine wp_region_lit ?_
    refine q_is (l' := [(.slice (some ⟨g, 0, none⟩) n cap), (Iv s.2), Ud, Ud, (Iv 0), (Iv (s.1 : Int)), (Iv (s.1 : Int)), (.slice (some ⟨g, 0, none⟩) n cap), (Iv (n : Int)), (Bo (icmp .lss (s.1 : Int) (n : Int))), (u4 10), (u4 11), (u4 12), (u4 13), (u4 14), (u4 15), (u4 16), (u4 17), (u4 18), (Iv s.2)]) rfl rfl (does_move (u := (Iv s.2)) (ev rfl)) rfl ?_
    refine q_is (l' := [(.slice (some ⟨g, 0, none⟩) n cap), (Iv s.2), Ud, Ud, (Iv s.2), (Iv (s.1 : Int)), (Iv (s.1 : Int)), (.slice (some ⟨g, 0, none⟩) n cap), (Iv (n : Int)), (Bo (icmp .lss (s.1 : Int) (n : Int))), (u4 10), (u4 11), (u4 12), (u4 13), (u4 14), (u4 15), (u4 16), (u4 17), (u4 18), (Iv s.2)]) rfl rfl (does_assign (u := (Iv s.2)) (ev rfl)) rfl ?_
    refine wpList_nil (hK18 _ _ ?_)
    refine wp_ret ?_
    refine ret_valK (v := (Iv s.2)) (res_T rfl (slot rfl)) X8 ?_
    have hj : s.1 = n := by omega
    exact ⟨by first | rfl | (show Value.int _ _ = Value.int _ _; congr 1; omega), Mk.cast hF7 (by rw [hj])⟩

theorem c_laws_markFloat32S (a : Value) (n : Nat) (L : List Nat) (B : Nat) (k : Int) (w : World) (ha : WL 1 B w L a n) (h0 : 0 ≤ k) (h1 : k + (n : Int) * 1 ≤ 4611686018427387904) : GivesK L Try.prog 45 #[a, Iv k] w (fun v w' => v = Iv (k + (n : Int) * 1) ∧ Hang B w' (fun u => Sl RF 1 u a (mkL fF 1 k n))) := by
  obtain ⟨hL, ⟨rfl, rfl, rfl⟩ | ⟨g, cap, cs, rfl, rfl, hB, hn, hc⟩⟩ := ha
  · exact (Gives.toK (c_laws_markFloat32S_nil k w)).mono fun v w' hv => ⟨by rw [hv]; simp, fun u _ => Sl_mk0 u⟩
  · exact (c_laws_markFloat32S_blk g cs.length n cap k w (Mk.zero hB rfl) hn h0 h1).mono fun v w' ⟨hv, hM⟩ => ⟨hv, Mk.hang hM (hL g (by simp)).1 hc (by decide) (by omega) rF⟩

theorem c_laws_markFloat32S_mk (a : Value) (n : Nat) (L : List Nat) (B : Nat) (k : Int) (w : World) (ha : WL 1 B w L a n) (h0 : 0 ≤ k) (h1 : k + (n : Int) * 1 ≤ 4611686018427387904) : GivesK L Try.prog 45 #[a, Iv k] w (fun v w' => v = Iv (k + (n : Int) * 1) ∧ MkS true 1 k w' L a n) := by
  obtain ⟨hL, ⟨rfl, rfl, rfl⟩ | ⟨g, cap, cs, rfl, rfl, hB, hn, hc⟩⟩ := ha
  · exact (Gives.toK (c_laws_markFloat32S_nil k w)).mono fun v w' hv => ⟨by rw [hv]; simp, .inl ⟨rfl, rfl, rfl⟩⟩
  · exact (c_laws_markFloat32S_blk g cs.length n cap k w (Mk.zero hB rfl) hn h0 h1).mono fun v w' ⟨hv, hM⟩ => ⟨hv, .inr ⟨g, cap, cs.length, rfl, rfl, hM, hc⟩⟩

theorem c_laws_markGrid (c0 : Value) (c1 : Value) (c2 : Value) (c3 : Value) (c4 : Value) (c5 : Value) (c6 : Value) (a : Value) (n : Nat) (L : List Nat) (B : Nat) (k : Int) (w : World) (ha : WL 1 B w L a n) (h0 : 0 ≤ k) (h1 : k + (n : Int) * 1 ≤ 4611686018427387904) : GivesK L Try.prog 19 #[.agg #[c0, c1, c2, c3, c4, c5, c6, a], Iv k] w (fun v w' => v = Iv (k + (n : Int) * 1) ∧ Hang B w' (fun u => Sl RF 1 u a (mkL fF 1 k n))) := by
  obtain ⟨pa, qa, rfl⟩ := WL.shape ha
  refine enterK [(.agg #[c0, c1, c2, c3, c4, c5, c6, (.slice pa n qa)]), (Iv k), Ud, Ud, Ud, Ud, Ud, Ud, Ud, Ud] Try.func19 rfl Try.ntmps19 rfl ?_
  refine wp_seq_k fun K1 hK1 => ?_
  refine wp_region_lit ?_
  refine seqd rfl rfl (does_box (u := (.agg #[c0, c1, c2, c3, c4, c5, c6, (.slice pa n qa)])) (ev rfl)) ?_; rintro _ w6 ⟨b2, rfl, hb3, hB4, E5⟩
  have g7 : w.heap.size ≤ b2 := Nat.le_trans (KpL.size (KpL.refl L w)) hb3
  change Blk _ _ [c0, c1, c2, c3, c4, c5, c6, (.slice pa n qa)] at hB4
  have X8 := KpL.ext (KpL.refl L w) E5
  show wpList _ _ _ _ (fr [(.agg #[c0, c1, c2, c3, c4, c5, c6, (.slice pa n qa)]), (Iv k), (Pt b2 0), Ud, Ud, Ud, Ud, Ud, Ud, Ud]) _
  refine q_is (l' := [(.agg #[c0, c1, c2, c3, c4, c5, c6, (.slice pa n qa)]), (Iv k), (Pt b2 0), Ud, (Iv 0), Ud, Ud, Ud, Ud, Ud]) rfl rfl (does_assign (u := (Iv 0)) (ev rfl)) rfl ?_
  refine wpList_nil (hK1 _ _ ?_)
  refine wp_seq_k fun K9 hK9 => ?_
  refine wp_region_lit ?_
  refine q_is (l' := [(.agg #[c0, c1, c2, c3, c4, c5, c6, (.slice pa n qa)]), (Iv k), (Pt b2 0), Ud, (Iv 0), (Pt b2 7), Ud, Ud, Ud, Ud]) rfl rfl (does_fieldAddr (ev rfl) fa49_5) rfl ?_
  refine q_is (l' := [(.agg #[c0, c1, c2, c3, c4, c5, c6, (.slice pa n qa)]), (Iv k), (Pt b2 0), Ud, (Iv 0), (Pt b2 7), (.slice pa n qa), Ud, Ud, Ud]) rfl rfl (does_load (u := (.slice pa n qa)) (ev rfl) Try.isAgg42 (Cells.at (Blk.cells hB4) 7 rfl)) rfl ?_
  refine q_is (l' := [(.agg #[c0, c1, c2, c3, c4, c5, c6, (.slice pa n qa)]), (Iv k), (Pt b2 0), Ud, (Iv 0), (Pt b2 7), (.slice pa n qa), (Iv k), Ud, Ud]) rfl rfl (does_move (u := (Iv k)) (ev rfl)) rfl ?_
  refine seqd rfl rfl (does_callK (args := #[(.slice pa n qa), (Iv k)]) cal45 (evs rfl) (c_laws_markFloat32S (.slice pa n qa) n L B k _ (ha.same ((Same.refl _ _).ext E5)) (by omega) (by first | omega | omega))) ?_; rintro _ w10 ⟨K11, rfl, hM12⟩
  have X13 := KpL.more X8 K11 (fun c hc => .inl (by simp [hc]))
  show wpList _ _ _ _ (fr [(.agg #[c0, c1, c2, c3, c4, c5, c6, (.slice pa n qa)]), (Iv k), (Pt b2 0), Ud, (Iv 0), (Pt b2 7), (.slice pa n qa), (Iv k), (Iv (k + (n : Int) * 1)), Ud]) _
  refine q_is (l' := [(.agg #[c0, c1, c2, c3, c4, c5, c6, (.slice pa n qa)]), (Iv (k + (n : Int) * 1)), (Pt b2 0), Ud, (Iv 0), (Pt b2 7), (.slice pa n qa), (Iv k), (Iv (k + (n : Int) * 1)), Ud]) rfl rfl (does_assign (u := (Iv (k + (n : Int) * 1))) (ev rfl)) rfl ?_
  refine wpList_nil (hK9 _ _ ?_)
  refine wp_seq_k fun K16 hK16 => ?_
  refine wp_region_lit ?_
  refine q_is (l' := [(.agg #[c0, c1, c2, c3, c4, c5, c6, (.slice pa n qa)]), (Iv (k + (n : Int) * 1)), (Pt b2 0), Ud, (Iv 0), (Pt b2 7), (.slice pa n qa), (Iv k), (Iv (k + (n : Int) * 1)), (Iv (k + (n : Int) * 1))]) rfl rfl (does_move (u := (Iv (k + (n : Int) * 1))) (ev rfl)) rfl ?_
  refine q_is (l' := [(.agg #[c0, c1, c2, c3, c4, c5, c6, (.slice pa n qa)]), (Iv (k + (n : Int) * 1)), (Pt b2 0), Ud, (Iv (k + (n : Int) * 1)), (Pt b2 7), (.slice pa n qa), (Iv k), (Iv (k + (n : Int) * 1)), (Iv (k + (n : Int) * 1))]) rfl rfl (does_assign (u := (Iv (k + (n : Int) * 1))) (ev rfl)) rfl ?_
  refine wpList_nil (hK16 _ _ ?_)
  refine wp_ret ?_
  refine ret_valK (v := (Iv (k + (n : Int) * 1))) (res_T rfl (slot rfl)) X13 ?_
  exact ⟨by first | rfl | (show Value.int _ _ = Value.int _ _; congr 1; omega), hM12⟩

/- laws.FnExactPartsInside -/
theorem c_laws_FnExactPartsInside (g : List Value) (A_g : GridT) (w : World) (hv_g : RGridT w A_g g) : Gives Try.prog 4 #[(.agg g.toArray)] w (fun v w' => v = (Bo true)) := by
  obtain ⟨r1, r3, r5, r7, y9, rfl, h2, h4, h6, h8, h10⟩ := hv_g
  have hs13 := h10; have hs13l := Sl.len h10; obtain ⟨p11, q12, rfl⟩ := Sl.shape h10
  have hgl := prtG_le A_g
  refine enter [(.agg #[(Fl r1), (Fl r3), (Fl r5), (Fl r7), (Iv A_g.x), (Iv A_g.y), (Iv A_g.z), (.slice p11 A_g.vals.length q12)]), Ud, Ud, Ud, Ud, Ud, Ud, Ud, Ud, Ud, Ud, Ud, Ud, Ud, Ud, Ud, Ud, Ud, Ud, Ud, Ud, Ud, Ud, Ud, Ud, Ud, Ud, Ud, Ud, Ud, Ud, Ud, Ud, Ud, Ud, Ud, Ud, Ud, Ud, Ud, Ud, Ud, Ud, Ud, Ud, Ud, Ud, Ud, Ud, Ud, Ud, Ud, Ud, Ud, Ud, Ud, Ud, Ud, Ud, Ud, Ud, Ud, Ud, Ud, Ud, Ud, Ud, Ud, Ud, Ud, Ud, Ud, Ud, Ud, Ud, Ud, Ud, Ud, Ud, Ud, Ud, Ud, Ud, Ud, Ud, Ud, Ud, Ud, Ud, Ud, Ud, Ud, Ud, Ud, Ud, Ud, Ud, Ud, Ud, Ud, Ud, Ud, Ud, Ud, Ud, Ud, Ud, Ud, Ud, Ud, Ud, Ud, Ud, Ud, Ud, Ud, Ud] Try.func4 rfl Try.ntmps4 rfl ?_
  refine wp_seq_k fun K14 hK14 => ?_
  refine wp_region_lit ?_
  refine seqd rfl rfl (does_box (u := (.agg #[(Fl r1), (Fl r3), (Fl r5), (Fl r7), (Iv A_g.x), (Iv A_g.y), (Iv A_g.z), (.slice p11 A_g.vals.length q12)])) (ev rfl)) ?_; rintro _ w19 ⟨b15, rfl, hb16, hB17, E18⟩
  have g20 : w.heap.size ≤ b15 := Nat.le_trans (Below.size (Ext.refl w)) hb16
  change Blk _ _ [(Fl r1), (Fl r3), (Fl r5), (Fl r7), (Iv A_g.x), (Iv A_g.y), (Iv A_g.z), (.slice p11 A_g.vals.length q12)] at hB17
  have X21 := Ext.gr (Ext.refl w) E18
  show wpList _ _ _ _ (fr [_, _, _, _, _, _, _, _, _, _, _, _, _, _, _, _, _, _, _, _, _, _, _, _, _, _, _, _, _, _, _, _, _, _, _, _, _, _, _, _, _, _, _, _, _, _, _, _, _, _, _, _, _, _, _, _, _, _, _, _, _, _, _, _, _, _, _, _, _, _, _, _, _, _, _, _, _, _, _, _, _, _, _, _, _, _, _, _, _, _, _, _, _, _, _, _, _, _, _, _, _, _, _, _, _, _, _, _, _, _, _, _, _, _, _, _, _]) _
  refine q_is rfl rfl (does_assign (u := (Bo false)) (ev rfl)) (by dsimp only [List.set]; try rfl) ?_
  refine wpList_nil (hK14 _ _ ?_)
  refine wp_seq_k fun K22 hK22 => ?_
  refine wp_region_lit ?_
  refine q_is rfl rfl (does_assign (u := (Iv 1048576)) (ev rfl)) (by dsimp only [List.set]; try rfl) ?_
  refine wpList_nil (hK22 _ _ ?_)
  refine wp_seq_k fun K23 hK23 => ?_
  refine wp_region_lit ?_
  refine q_is rfl rfl (does_loadAgg (cs := [(Fl r1), (Fl r3), (Fl r5), (Fl r7), (Iv A_g.x), (Iv A_g.y), (Iv A_g.z), (.slice p11 A_g.vals.length q12)]) (ev rfl) Try.isAgg44 Try.sizeOf44 (Blk.cells hB17) rfl) (by dsimp only [List.set]; try rfl) ?_
  refine q_is rfl rfl (does_move (u := (Iv 1048576)) (ev rfl)) (by dsimp only [List.set]; try rfl) ?_
  refine seqd rfl rfl (does_call (args := #[(.agg #[(Fl r1), (Fl r3), (Fl r5), (Fl r7), (Iv A_g.x), (Iv A_g.y), (Iv A_g.z), (.slice p11 A_g.vals.length q12)]), (Iv 1048576)]) cal14 (evs rfl) (c_laws_szGrid [(Fl r1), (Fl r3), (Fl r5), (Fl r7), (Iv A_g.x), (Iv A_g.y), (Iv A_g.z), (.slice p11 A_g.vals.length q12)] A_g 1048576 _ ⟨r1, r3, r5, r7, (.slice p11 A_g.vals.length q12), rfl, h2, h4, h6, h8, (Sl.ext hs13 RF.mono X21)⟩ (by omega) (by omega))) ?_; rintro _ w25 ⟨E24, ⟨i26, rfl, h27⟩⟩
  have X28 := Ext.gr X21 E24
  show wpList _ _ _ _ (fr [_, _, _, _, _, _, _, _, _, _, _, _, _, _, _, _, _, _, _, _, _, _, _, _, _, _, _, _, _, _, _, _, _, _, _, _, _, _, _, _, _, _, _, _, _, _, _, _, _, _, _, _, _, _, _, _, _, _, _, _, _, _, _, _, _, _, _, _, _, _, _, _, _, _, _, _, _, _, _, _, _, _, _, _, _, _, _, _, _, _, _, _, _, _, _, _, _, _, _, _, _, _, _, _, _, _, _, _, _, _, _, _, _, _, _, _, _]) _
  refine q_is rfl rfl (does_assign (u := (Iv i26)) (ev rfl)) (by dsimp only [List.set]; try rfl) ?_
  refine wpList_nil (hK23 _ _ ?_)
  refine wp_seq_k fun K29 hK29 => ?_
  refine wp_seq_k fun K30 hK30 => ?_
  refine wp_region_lit ?_
  refine q_is rfl rfl (does_move (u := (Iv i26)) (ev rfl)) (by dsimp only [List.set]; try rfl) ?_
  refine q_is rfl rfl (does_icmp (p := i26) (q := 0) (.inr (.inr (.inl rfl))) (ev rfl) (ev rfl)) (by dsimp only [List.set]; try rfl) ?_
  refine wpList_nil (hK30 _ _ ?_)
  refine wp_cond_split (t := icmp .lss i26 0) (ev rfl) (fun c31 => ?_) (fun c31 => ?_)
  · have c31' := c31
    (try simp only [sameG_self, sameX_selfI, bne_self_eq_false] at c31')
    (try simp only [icmp, Bool.and_eq_true, Bool.or_eq_true, Bool.and_eq_false_iff, Bool.or_eq_false_iff, Bool.not_eq_true', Bool.not_eq_false', decide_eq_true_eq, decide_eq_false_iff_not, beq_iff_eq, bne_iff_ne, beq_eq_false_iff_ne, bne_eq_false_iff_eq] at c31')
    refine wp_seq_k fun K32 hK32 => ?_
    refine wp_region_lit ?_
    refine q_is rfl rfl (does_assign (u := (Bo true)) (ev rfl)) (by dsimp only [List.set]; try rfl) ?_
    refine wpList_nil (hK32 _ _ ?_)
    refine wp_ret ?_
    dsimp only [Exit.then, Exit.inBlock]
    refine ret_val (v := (Bo true)) (res_T rfl (slot rfl)) X28 ?_
    try simp only [h2, h4, h6, h8, sameG_self, sameX_selfI, bne_self_eq_false] at c31
    exact rfl
  have c31' := c31
  (try simp only [sameG_self, sameX_selfI, bne_self_eq_false] at c31')
  (try simp only [icmp, Bool.and_eq_true, Bool.or_eq_true, Bool.and_eq_false_iff, Bool.or_eq_false_iff, Bool.not_eq_true', Bool.not_eq_false', decide_eq_true_eq, decide_eq_false_iff_not, beq_iff_eq, bne_iff_ne, beq_eq_false_iff_ne, bne_eq_false_iff_eq] at c31')
  refine wp_skip (hK29 _ _ ?_)
  refine wp_seq_k fun K33 hK33 => ?_
  refine wp_region_lit ?_
  refine q_is rfl rfl (does_loadAgg (cs := [(Fl r1), (Fl r3), (Fl r5), (Fl r7), (Iv A_g.x), (Iv A_g.y), (Iv A_g.z), (.slice p11 A_g.vals.length q12)]) (ev rfl) Try.isAgg44 Try.sizeOf44 (Blk.cells (hB17.ext E24)) rfl) (by dsimp only [List.set]; try rfl) ?_
  refine seqd rfl rfl (does_call (args := #[(.agg #[(Fl r1), (Fl r3), (Fl r5), (Fl r7), (Iv A_g.x), (Iv A_g.y), (Iv A_g.z), (.slice p11 A_g.vals.length q12)])]) cal16 (evs rfl) (c_laws_toGrid [(Fl r1), (Fl r3), (Fl r5), (Fl r7), (Iv A_g.x), (Iv A_g.y), (Iv A_g.z), (.slice p11 A_g.vals.length q12)] A_g _ ⟨r1, r3, r5, r7, (.slice p11 A_g.vals.length q12), rfl, h2, h4, h6, h8, (Sl.ext hs13 RF.mono X28)⟩ (by omega))) ?_; rintro _ w35 ⟨E34, ⟨cs37, Lw38, rfl, hh36, hw39⟩⟩
  have X40 := Ext.gr X28 E34
  have n41 : b15 < w25.heap.size := Blk.lt (hB17.ext E24)
  obtain ⟨r42, r44, r46, r48, y50, rfl, h43, h45, h47, h49, h51⟩ := hh36.get
  have h51l := Sl.len h51; obtain ⟨p52, q53, rfl⟩ := Sl.shape h51
  have hh54 : Hang w25.heap.size w35 (fun u => Sl RF 1 u (.slice p52 A_g.vals.length q53) A_g.vals) := fun u hu => by obtain ⟨_, _, _, _, _, hq, _, _, _, _, _⟩ := hh36 u hu; cases hq; assumption
  have hw55 : WL 1 w25.heap.size w35 Lw38 (.slice p52 A_g.vals.length q53) A_g.vals.length := hw39
  show wpList _ _ _ _ (fr [_, _, _, _, _, _, _, _, _, _, _, _, _, _, _, _, _, _, _, _, _, _, _, _, _, _, _, _, _, _, _, _, _, _, _, _, _, _, _, _, _, _, _, _, _, _, _, _, _, _, _, _, _, _, _, _, _, _, _, _, _, _, _, _, _, _, _, _, _, _, _, _, _, _, _, _, _, _, _, _, _, _, _, _, _, _, _, _, _, _, _, _, _, _, _, _, _, _, _, _, _, _, _, _, _, _, _, _, _, _, _, _, _, _, _, _, _]) _
  refine seqd rfl rfl (does_call (args := #[(.agg #[(Fl r42), (Fl r44), (Fl r46), (Fl r48), (Iv A_g.x), (Iv A_g.y), (Iv A_g.z), (.slice p52 A_g.vals.length q53)])]) cal15 (evs rfl) (c_spec_PartsInside [(Fl r42), (Fl r44), (Fl r46), (Fl r48), (Iv A_g.x), (Iv A_g.y), (Iv A_g.z), (.slice p52 A_g.vals.length q53)] A_g _ ⟨r42, r44, r46, r48, (.slice p52 A_g.vals.length q53), rfl, h43, h45, h47, h49, hh54.get⟩)) ?_; rintro _ w57 ⟨E56, ⟨y59, rfl, hh58⟩⟩
  have X60 := Ext.gr X40 E56
  have n61 : b15 < w35.heap.size := Blk.lt ((hB17.ext E24).ext E34)
  obtain ⟨p62, q63, rfl⟩ := Sl.shape hh58.get
  show wpList _ _ _ _ (fr [_, _, _, _, _, _, _, _, _, _, _, _, _, _, _, _, _, _, _, _, _, _, _, _, _, _, _, _, _, _, _, _, _, _, _, _, _, _, _, _, _, _, _, _, _, _, _, _, _, _, _, _, _, _, _, _, _, _, _, _, _, _, _, _, _, _, _, _, _, _, _, _, _, _, _, _, _, _, _, _, _, _, _, _, _, _, _, _, _, _, _, _, _, _, _, _, _, _, _, _, _, _, _, _, _, _, _, _, _, _, _, _, _, _, _, _, _]) _
  refine q_is rfl rfl (does_move (u := (.tuple #[(.slice p62 (((prtG A_g).1).length) q63), (Iv ((prtG A_g).2)), (Bo (isGrid A_g))])) (ev rfl)) (by dsimp only [List.set]; try rfl) ?_
  refine q_is rfl rfl (does_extract (vs := #[(.slice p62 (((prtG A_g).1).length) q63), (Iv ((prtG A_g).2)), (Bo (isGrid A_g))]) (u := (.slice p62 (((prtG A_g).1).length) q63)) (ev rfl) rfl) (by dsimp only [List.set]; try rfl) ?_
  refine q_is rfl rfl (does_extract (vs := #[(.slice p62 (((prtG A_g).1).length) q63), (Iv ((prtG A_g).2)), (Bo (isGrid A_g))]) (u := (Iv ((prtG A_g).2))) (ev rfl) rfl) (by dsimp only [List.set]; try rfl) ?_
  refine q_is rfl rfl (does_extract (vs := #[(.slice p62 (((prtG A_g).1).length) q63), (Iv ((prtG A_g).2)), (Bo (isGrid A_g))]) (u := (Bo (isGrid A_g))) (ev rfl) rfl) (by dsimp only [List.set]; try rfl) ?_
  refine q_is rfl rfl (does_assign (u := (.slice p62 (((prtG A_g).1).length) q63)) (ev rfl)) (by dsimp only [List.set]; try rfl) ?_
  refine q_is rfl rfl (does_assign (u := (Iv ((prtG A_g).2))) (ev rfl)) (by dsimp only [List.set]; try rfl) ?_
  refine q_is rfl rfl (does_assign (u := (Bo (isGrid A_g))) (ev rfl)) (by dsimp only [List.set]; try rfl) ?_
  refine wpList_nil (hK33 _ _ ?_)
  refine wp_seq_k fun K64 hK64 => ?_
  refine wp_region_lit ?_
  refine q_is rfl rfl (does_loadAgg (cs := [(Fl r1), (Fl r3), (Fl r5), (Fl r7), (Iv A_g.x), (Iv A_g.y), (Iv A_g.z), (.slice p11 A_g.vals.length q12)]) (ev rfl) Try.isAgg44 Try.sizeOf44 (Blk.cells (((hB17.ext E24).ext E34).ext E56)) rfl) (by dsimp only [List.set]; try rfl) ?_
  refine seqd rfl rfl (does_call (args := #[(.agg #[(Fl r1), (Fl r3), (Fl r5), (Fl r7), (Iv A_g.x), (Iv A_g.y), (Iv A_g.z), (.slice p11 A_g.vals.length q12)])]) cal16 (evs rfl) (c_laws_toGrid [(Fl r1), (Fl r3), (Fl r5), (Fl r7), (Iv A_g.x), (Iv A_g.y), (Iv A_g.z), (.slice p11 A_g.vals.length q12)] A_g _ ⟨r1, r3, r5, r7, (.slice p11 A_g.vals.length q12), rfl, h2, h4, h6, h8, (Sl.ext hs13 RF.mono X60)⟩ (by omega))) ?_; rintro _ w66 ⟨E65, ⟨cs68, Lw69, rfl, hh67, hw70⟩⟩
  have X71 := Ext.gr X60 E65
  have n72 : b15 < w57.heap.size := Blk.lt (((hB17.ext E24).ext E34).ext E56)
  obtain ⟨r73, r75, r77, r79, y81, rfl, h74, h76, h78, h80, h82⟩ := hh67.get
  have h82l := Sl.len h82; obtain ⟨p83, q84, rfl⟩ := Sl.shape h82
  have hh85 : Hang w57.heap.size w66 (fun u => Sl RF 1 u (.slice p83 A_g.vals.length q84) A_g.vals) := fun u hu => by obtain ⟨_, _, _, _, _, hq, _, _, _, _, _⟩ := hh67 u hu; cases hq; assumption
  have hw86 : WL 1 w57.heap.size w66 Lw69 (.slice p83 A_g.vals.length q84) A_g.vals.length := hw70
  show wpList _ _ _ _ (fr [_, _, _, _, _, _, _, _, _, _, _, _, _, _, _, _, _, _, _, _, _, _, _, _, _, _, _, _, _, _, _, _, _, _, _, _, _, _, _, _, _, _, _, _, _, _, _, _, _, _, _, _, _, _, _, _, _, _, _, _, _, _, _, _, _, _, _, _, _, _, _, _, _, _, _, _, _, _, _, _, _, _, _, _, _, _, _, _, _, _, _, _, _, _, _, _, _, _, _, _, _, _, _, _, _, _, _, _, _, _, _, _, _, _, _, _, _]) _
  refine seqd rfl rfl (does_alloc z49) ?_; rintro _ w91 ⟨b87, rfl, hb88, hB89, E90⟩
  have n92 : b15 < b87 := Nat.lt_of_lt_of_le (Blk.lt ((((hB17.ext E24).ext E34).ext E56).ext E65)) hb88
  have g93 : w.heap.size ≤ b87 := Nat.le_trans (Below.size X71) hb88
  change Blk _ _ [(Fl 0), (Fl 0), (Fl 0), (Fl 0), (Iv 0), (Iv 0), (Iv 0), (.slice none 0 0)] at hB89
  have X94 := Ext.gr X71 E90
  show wpList _ _ _ _ (fr [_, _, _, _, _, _, _, _, _, _, _, _, _, _, _, _, _, _, _, _, _, _, _, _, _, _, _, _, _, _, _, _, _, _, _, _, _, _, _, _, _, _, _, _, _, _, _, _, _, _, _, _, _, _, _, _, _, _, _, _, _, _, _, _, _, _, _, _, _, _, _, _, _, _, _, _, _, _, _, _, _, _, _, _, _, _, _, _, _, _, _, _, _, _, _, _, _, _, _, _, _, _, _, _, _, _, _, _, _, _, _, _, _, _, _, _, _]) _
  refine seqn rfl rfl (does_store (n := 8) (cs := [(Fl 0), (Fl 0), (Fl 0), (Fl 0), (Iv 0), (Iv 0), (Iv 0), (.slice none 0 0)]) (u := (.agg #[(Fl r73), (Fl r75), (Fl r77), (Fl r79), (Iv A_g.x), (Iv A_g.y), (Iv A_g.z), (.slice p83 A_g.vals.length q84)])) (ev rfl) (ev rfl) Try.sizeOf49 rfl hB89 (Nat.le_of_ble_eq_true rfl) rfl) ?_; rintro _ w97 ⟨rfl, W95, hB96⟩
  change Blk _ _ [(Fl r73), (Fl r75), (Fl r77), (Fl r79), (Iv A_g.x), (Iv A_g.y), (Iv A_g.z), (.slice p83 A_g.vals.length q84)] at hB96
  have X98 := Below.wr X94 W95 g93
  refine wpList_nil (hK64 _ _ ?_)
  refine wp_seq_k fun K99 hK99 => ?_
  refine wp_region_lit ?_
  refine q_is rfl rfl (does_loadAgg (cs := [(Fl r73), (Fl r75), (Fl r77), (Fl r79), (Iv A_g.x), (Iv A_g.y), (Iv A_g.z), (.slice p83 A_g.vals.length q84)]) (ev rfl) Try.isAgg49 Try.sizeOf49 (Blk.cells hB96) rfl) (by dsimp only [List.set]; try rfl) ?_
  refine seqd rfl rfl (does_call (args := #[(.agg #[(Fl r73), (Fl r75), (Fl r77), (Fl r79), (Iv A_g.x), (Iv A_g.y), (Iv A_g.z), (.slice p83 A_g.vals.length q84)])]) cal17 (evs rfl) (c_impl_PartsInside [(Fl r73), (Fl r75), (Fl r77), (Fl r79), (Iv A_g.x), (Iv A_g.y), (Iv A_g.z), (.slice p83 A_g.vals.length q84)] A_g _ ⟨r73, r75, r77, r79, (.slice p83 A_g.vals.length q84), rfl, h74, h76, h78, h80, (hh85 _ (((Same.refl _ _).ext E90).wr W95 (.inr (Nat.le_trans (Nat.le_refl _) hb88))))⟩)) ?_; rintro _ w101 ⟨E100, ⟨y103, Lw104, rfl, hh102, hw105⟩⟩
  have X106 := Ext.gr X98 E100
  have n107 : b15 < w97.heap.size := Blk.lt ((((((hB17.ext E24).ext E34).ext E56).ext E65).ext E90).wr W95 (Nat.ne_of_lt n92))
  have n108 : b87 < w97.heap.size := Blk.lt hB96
  obtain ⟨p109, q110, rfl⟩ := Sl.shape hh102.get
  have hw111 : WL 1 w97.heap.size w101 Lw104 (.slice p109 (((prtG A_g).1).length) q110) ((prtG A_g).1).length := hw105
  show wpList _ _ _ _ (fr [_, _, _, _, _, _, _, _, _, _, _, _, _, _, _, _, _, _, _, _, _, _, _, _, _, _, _, _, _, _, _, _, _, _, _, _, _, _, _, _, _, _, _, _, _, _, _, _, _, _, _, _, _, _, _, _, _, _, _, _, _, _, _, _, _, _, _, _, _, _, _, _, _, _, _, _, _, _, _, _, _, _, _, _, _, _, _, _, _, _, _, _, _, _, _, _, _, _, _, _, _, _, _, _, _, _, _, _, _, _, _, _, _, _, _, _, _]) _
  refine q_is rfl rfl (does_move (u := (.tuple #[(.slice p109 (((prtG A_g).1).length) q110), (Iv ((prtG A_g).2)), (Bo (isGrid A_g))])) (ev rfl)) (by dsimp only [List.set]; try rfl) ?_
  refine q_is rfl rfl (does_extract (vs := #[(.slice p109 (((prtG A_g).1).length) q110), (Iv ((prtG A_g).2)), (Bo (isGrid A_g))]) (u := (.slice p109 (((prtG A_g).1).length) q110)) (ev rfl) rfl) (by dsimp only [List.set]; try rfl) ?_
  refine q_is rfl rfl (does_extract (vs := #[(.slice p109 (((prtG A_g).1).length) q110), (Iv ((prtG A_g).2)), (Bo (isGrid A_g))]) (u := (Iv ((prtG A_g).2))) (ev rfl) rfl) (by dsimp only [List.set]; try rfl) ?_
  refine q_is rfl rfl (does_extract (vs := #[(.slice p109 (((prtG A_g).1).length) q110), (Iv ((prtG A_g).2)), (Bo (isGrid A_g))]) (u := (Bo (isGrid A_g))) (ev rfl) rfl) (by dsimp only [List.set]; try rfl) ?_
  refine q_is rfl rfl (does_assign (u := (.slice p109 (((prtG A_g).1).length) q110)) (ev rfl)) (by dsimp only [List.set]; try rfl) ?_
  refine q_is rfl rfl (does_assign (u := (Iv ((prtG A_g).2))) (ev rfl)) (by dsimp only [List.set]; try rfl) ?_
  refine q_is rfl rfl (does_assign (u := (Bo (isGrid A_g))) (ev rfl)) (by dsimp only [List.set]; try rfl) ?_
  refine wpList_nil (hK99 _ _ ?_)
  refine wp_seq_k fun K112 hK112 => ?_
  refine wp_seq_k fun K113 hK113 => ?_
  obtain ⟨β1, hβ1⟩ : ∃ b : Bool, b = (sameX eqI ((prtG A_g).1) ((prtG A_g).1)) := ⟨_, rfl⟩
  obtain ⟨β2, hβ2⟩ : ∃ b : Bool, b = (icmp .neq ((prtG A_g).2) ((prtG A_g).2)) := ⟨_, rfl⟩
  obtain ⟨β3, hβ3⟩ : ∃ b : Bool, b = ((isGrid A_g) != (isGrid A_g)) := ⟨_, rfl⟩
  refine region_text (
    [Fact.pure [] (fun v => v = (.slice p109 (((prtG A_g).1).length) q110)),
    Fact.pure [] (fun v => v = (.slice p62 (((prtG A_g).1).length) q63)),
    Fact.pure [37, 38] (fun v => v = (Bo β1)),
    Fact.pure [39] (fun v => v = (Bo (!β1))),
    Fact.pure [40] (fun v => v = (Bo (!β1))),
    Fact.pure [41] (fun v => (!β1) = false → v = (Iv ((prtG A_g).2))),
    Fact.pure [41] (fun v => (!β1) = false → v = (Iv ((prtG A_g).2))),
    Fact.pure [42, 43, 41] (fun v => (!β1) = false → v = (Bo β2)),
    Fact.pure [41, 44] (fun v => v = (Bo ((!β1) || β2))),
    Fact.pure [45] (fun v => v = (Bo ((!β1) || β2))),
    Fact.pure [46] (fun v => ((!β1) || β2) = false → v = (Bo (isGrid A_g))),
    Fact.pure [46] (fun v => ((!β1) || β2) = false → v = (Bo (isGrid A_g))),
    Fact.pure [47, 48, 46] (fun v => ((!β1) || β2) = false → v = (Bo β3)),
    Fact.pure [46, 49] (fun v => v = (Bo (((!β1) || β2) || β3)))]) (by simp [Fact.pure, Fact.mem]) ?_
  refine RW_d _ rfl (fun v => by dsimp only [List.set]; try rfl) (fun u hu hF => ?_) (fun v114 => ?_)
  · clear hF
    refine doesG_un rfl ?_
    refine (does_move (u := (.slice p109 (((prtG A_g).1).length) q110)) (ev rfl)).mono ?_; rintro _ _ ⟨rfl, rfl⟩
    exact ⟨rfl, Ext.refl _⟩
  refine RW_d _ rfl (fun v => by dsimp only [List.set]; try rfl) (fun u hu hF => ?_) (fun v115 => ?_)
  · clear hF
    refine doesG_un rfl ?_
    refine (does_move (u := (.slice p62 (((prtG A_g).1).length) q63)) (ev rfl)).mono ?_; rintro _ _ ⟨rfl, rfl⟩
    exact ⟨rfl, Ext.refl _⟩
  refine RW_d _ rfl (fun v => by dsimp only [List.set]; try rfl) (fun u hu hF => ?_) (fun v116 => ?_)
  · have h37_ : v114 = (.slice p109 (((prtG A_g).1).length) q110) := hF.1
    have h38_ : v115 = (.slice p62 (((prtG A_g).1).length) q63) := hF.2.1
    clear hF
    refine doesG_un rfl ?_
    obtain rfl := h37_
    obtain rfl := h38_
    refine (does_call (args := #[(.slice p109 (((prtG A_g).1).length) q110), (.slice p62 (((prtG A_g).1).length) q63)]) cal9 (evs rfl) (c_laws_eqInt64S (.slice p109 (((prtG A_g).1).length) q110) ((prtG A_g).1) (.slice p62 (((prtG A_g).1).length) q63) ((prtG A_g).1) _ (Sl.ext hh102.get RI.mono hu) (Sl.ext (hh58 _ (((((Same.refl _ _).ext E65).ext E90).wr W95 (.inr (Nat.le_trans (Below.size E65) hb88))).ext E100)) RI.mono hu))).mono ?_; rintro v u' ⟨hx, hv⟩
    exact ⟨hv.trans (by simp only [hβ1]), hx⟩
  refine RW_d _ rfl (fun v => by dsimp only [List.set]; try rfl) (fun u hu hF => ?_) (fun v117 => ?_)
  · have h39_ : v116 = (Bo β1) := hF.1
    clear hF
    refine doesG_un rfl ?_
    obtain rfl := h39_
    refine (does_not (ev rfl)).mono ?_; rintro _ _ ⟨rfl, rfl⟩
    exact ⟨rfl, Ext.refl _⟩
  refine RW_d _ rfl (fun v => by dsimp only [List.set]; try rfl) (fun u hu hF => ?_) (fun v118 => ?_)
  · have h40_ : v117 = (Bo (!β1)) := hF.1
    clear hF
    refine doesG_un rfl ?_
    obtain rfl := h40_
    refine (does_move (u := (Bo (!β1))) (ev rfl)).mono ?_; rintro _ _ ⟨rfl, rfl⟩
    exact ⟨rfl, Ext.refl _⟩
  refine RW_d _ rfl (fun v => by dsimp only [List.set]; try rfl) (fun u hu hF => ?_) (fun v119 => ?_)
  · have h41_ : v118 = (Bo (!β1)) := hF.1
    clear hF
    obtain rfl := h41_
    refine doesG_g (b := (!β1)) rfl (yld rfl rfl) (fun hg1 => ?_) (fun hc => ⟨fun hg1 => absurd hg1 hc, Ext.refl _⟩)
    refine (does_move (u := (Iv ((prtG A_g).2))) (ev rfl)).mono ?_; rintro _ _ ⟨rfl, rfl⟩
    exact ⟨fun _ => rfl, Ext.refl _⟩
  refine RW_d _ rfl (fun v => by dsimp only [List.set]; try rfl) (fun u hu hF => ?_) (fun v120 => ?_)
  · have h41_ : v118 = (Bo (!β1)) := hF.1
    clear hF
    obtain rfl := h41_
    refine doesG_g (b := (!β1)) rfl (yld rfl rfl) (fun hg1 => ?_) (fun hc => ⟨fun hg1 => absurd hg1 hc, Ext.refl _⟩)
    refine (does_move (u := (Iv ((prtG A_g).2))) (ev rfl)).mono ?_; rintro _ _ ⟨rfl, rfl⟩
    exact ⟨fun _ => rfl, Ext.refl _⟩
  refine RW_d _ rfl (fun v => by dsimp only [List.set]; try rfl) (fun u hu hF => ?_) (fun v121 => ?_)
  · have h42_ : (!β1) = false → v119 = (Iv ((prtG A_g).2)) := hF.1
    have h43_ : (!β1) = false → v120 = (Iv ((prtG A_g).2)) := hF.2.1
    have h41_ : v118 = (Bo (!β1)) := hF.2.2.1
    clear hF
    obtain rfl := h41_
    refine doesG_g (b := (!β1)) rfl (yld rfl rfl) (fun hg1 => ?_) (fun hc => ⟨fun hg1 => absurd hg1 hc, Ext.refl _⟩)
    obtain rfl := h42_ hg1
    obtain rfl := h43_ hg1
    refine (does_icmp (p := (prtG A_g).2) (q := (prtG A_g).2) (.inr (.inl rfl)) (ev rfl) (ev rfl)).mono ?_; rintro _ _ ⟨rfl, rfl⟩
    exact ⟨fun _ => (by first | rfl | (show _ = _; simp only [hβ2]; done) | (show _ = _; simp only [hβ2]; rfl)), Ext.refl _⟩
  refine RW_d _ rfl (fun v => by dsimp only [List.set]; try rfl) (fun u hu hF => ?_) (fun v122 => ?_)
  · have h41_ : v118 = (Bo (!β1)) := hF.1
    have h44_ : (!β1) = false → v121 = (Bo β2) := hF.2.1
    clear hF
    refine doesG_un rfl ?_
    skip
    obtain rfl := h41_
    refine (does_pick (b := (!β1)) (u := (Bo true)) (v := v121) (ev rfl) (ev rfl) (ev rfl)).mono ?_; rintro _ _ ⟨rfl, rfl⟩; refine ⟨?_, Ext.refl _⟩; skip
    cases hbb : (!β1)
    all_goals first | (show _ = _; simp only [↓reduceIte, Bool.true_and, Bool.false_and, Bool.true_or, Bool.false_or, Bool.false_eq_true]; done) | (have e_ := h44_ hbb; subst e_; show _ = _; simp only [↓reduceIte, Bool.true_and, Bool.false_and, Bool.true_or, Bool.false_or, Bool.false_eq_true]; done) | rfl | (have e_ := h44_ hbb; subst e_; rfl) | (simp [hbb] at h44_ ⊢; first | done | rfl | (subst h44_; rfl) | simp_all) | (simp [hbb] at h44_ ⊢; done)
  refine RW_d _ rfl (fun v => by dsimp only [List.set]; try rfl) (fun u hu hF => ?_) (fun v123 => ?_)
  · have h45_ : v122 = (Bo ((!β1) || β2)) := hF.1
    clear hF
    refine doesG_un rfl ?_
    obtain rfl := h45_
    refine (does_move (u := (Bo ((!β1) || β2))) (ev rfl)).mono ?_; rintro _ _ ⟨rfl, rfl⟩
    exact ⟨rfl, Ext.refl _⟩
  refine RW_d _ rfl (fun v => by dsimp only [List.set]; try rfl) (fun u hu hF => ?_) (fun v124 => ?_)
  · have h46_ : v123 = (Bo ((!β1) || β2)) := hF.1
    clear hF
    obtain rfl := h46_
    refine doesG_g (b := ((!β1) || β2)) rfl (yld rfl rfl) (fun hg1 => ?_) (fun hc => ⟨fun hg1 => absurd hg1 hc, Ext.refl _⟩)
    refine (does_move (u := (Bo (isGrid A_g))) (ev rfl)).mono ?_; rintro _ _ ⟨rfl, rfl⟩
    exact ⟨fun _ => rfl, Ext.refl _⟩
  refine RW_d _ rfl (fun v => by dsimp only [List.set]; try rfl) (fun u hu hF => ?_) (fun v125 => ?_)
  · have h46_ : v123 = (Bo ((!β1) || β2)) := hF.1
    clear hF
    obtain rfl := h46_
    refine doesG_g (b := ((!β1) || β2)) rfl (yld rfl rfl) (fun hg1 => ?_) (fun hc => ⟨fun hg1 => absurd hg1 hc, Ext.refl _⟩)
    refine (does_move (u := (Bo (isGrid A_g))) (ev rfl)).mono ?_; rintro _ _ ⟨rfl, rfl⟩
    exact ⟨fun _ => rfl, Ext.refl _⟩
  refine RW_d _ rfl (fun v => by dsimp only [List.set]; try rfl) (fun u hu hF => ?_) (fun v126 => ?_)
  · have h47_ : ((!β1) || β2) = false → v124 = (Bo (isGrid A_g)) := hF.1
    have h48_ : ((!β1) || β2) = false → v125 = (Bo (isGrid A_g)) := hF.2.1
    have h46_ : v123 = (Bo ((!β1) || β2)) := hF.2.2.1
    clear hF
    obtain rfl := h46_
    refine doesG_g (b := ((!β1) || β2)) rfl (yld rfl rfl) (fun hg1 => ?_) (fun hc => ⟨fun hg1 => absurd hg1 hc, Ext.refl _⟩)
    obtain rfl := h47_ hg1
    obtain rfl := h48_ hg1
    refine (does_bne (p := (isGrid A_g)) (q := (isGrid A_g)) Try.underlying4 (ev rfl) (ev rfl)).mono ?_; rintro _ _ ⟨rfl, rfl⟩
    exact ⟨fun _ => (by first | rfl | (show _ = _; simp only [hβ3]; done) | (show _ = _; simp only [hβ3]; rfl)), Ext.refl _⟩
  refine RW_d _ rfl (fun v => by dsimp only [List.set]; try rfl) (fun u hu hF => ?_) (fun v127 => ?_)
  · have h46_ : v123 = (Bo ((!β1) || β2)) := hF.1
    have h49_ : ((!β1) || β2) = false → v126 = (Bo β3) := hF.2.1
    clear hF
    refine doesG_un rfl ?_
    skip
    obtain rfl := h46_
    refine (does_pick (b := ((!β1) || β2)) (u := (Bo true)) (v := v126) (ev rfl) (ev rfl) (ev rfl)).mono ?_; rintro _ _ ⟨rfl, rfl⟩; refine ⟨?_, Ext.refl _⟩; skip
    cases hbb : ((!β1) || β2)
    all_goals first | (show _ = _; simp only [↓reduceIte, Bool.true_and, Bool.false_and, Bool.true_or, Bool.false_or, Bool.false_eq_true]; done) | (have e_ := h49_ hbb; subst e_; show _ = _; simp only [↓reduceIte, Bool.true_and, Bool.false_and, Bool.true_or, Bool.false_or, Bool.false_eq_true]; done) | rfl | (have e_ := h49_ hbb; subst e_; rfl) | (simp [hbb] at h49_ ⊢; first | done | rfl | (subst h49_; rfl) | simp_all) | (simp [hbb] at h49_ ⊢; done)
  refine RW_fin ?_; intro w128 E129 hP130
  obtain ⟨⟨⟨⟨⟨⟨⟨⟨⟨⟨⟨⟨⟨⟨-, -⟩, -⟩, -⟩, -⟩, -⟩, -⟩, -⟩, -⟩, -⟩, -⟩, -⟩, -⟩, -⟩, q131⟩ := hP130
  have X132 := Ext.gr X106 E129
  have q131 : v127 = (Bo (((!β1) || β2) || β3)) := q131
  obtain rfl := q131
  show wpList _ _ _ _ (fr [_, _, _, _, _, _, _, _, _, _, _, _, _, _, _, _, _, _, _, _, _, _, _, _, _, _, _, _, _, _, _, _, _, _, _, _, _, _, _, _, _, _, _, _, _, _, _, _, _, _, _, _, _, _, _, _, _, _, _, _, _, _, _, _, _, _, _, _, _, _, _, _, _, _, _, _, _, _, _, _, _, _, _, _, _, _, _, _, _, _, _, _, _, _, _, _, _, _, _, _, _, _, _, _, _, _, _, _, _, _, _, _, _, _, _, _, _]) _
  refine wpList_nil (hK113 _ _ ?_)
  refine wp_cond_split (t := ((!β1) || β2) || β3) (ev rfl) (fun c133 => ?_) (fun c133 => ?_)
  · have c133' := c133
    (try simp only [hβ1, hβ2, hβ3, sameG_self, sameX_selfI, bne_self_eq_false] at c133')
    (try simp only [hβ1, hβ2, hβ3] at c133')
    (try simp only [icmp, Bool.and_eq_true, Bool.or_eq_true, Bool.and_eq_false_iff, Bool.or_eq_false_iff, Bool.not_eq_true', Bool.not_eq_false', decide_eq_true_eq, decide_eq_false_iff_not, beq_iff_eq, bne_iff_ne, beq_eq_false_iff_ne, bne_eq_false_iff_eq] at c133')
    refine wp_seq_k fun K134 hK134 => ?_
    refine wp_region_lit ?_
    refine q_is rfl rfl (does_assign (u := (Bo false)) (ev rfl)) (by dsimp only [List.set]; try rfl) ?_
    refine wpList_nil (hK134 _ _ ?_)
    refine wp_ret ?_
    dsimp only [Exit.then, Exit.inBlock]
    refine ret_val (v := (Bo false)) (res_T rfl (slot rfl)) X132 ?_
    try simp only [h2, h4, h6, h8, h43, h45, h47, h49, h74, h76, h78, h80, hβ1, hβ2, hβ3, sameG_self, sameX_selfI, bne_self_eq_false] at c31 c133
    have x135 : true = false := by first | with_reducible rfl | (exfalso; omega) | (exfalso; simp only [mkL_len] at * <;> omega) | (exfalso; rcases c133' with ((hh | hh) | hh) | hh <;> first | omega | (exact Bool.noConfusion hh) | (exact absurd rfl hh)) | (exfalso; rcases c133' with (hh | hh) | hh <;> first | omega | (exact Bool.noConfusion hh)) | (exfalso; rcases c133' with hh | hh <;> first | omega | (exact Bool.noConfusion hh)) | (simp only [sameG_self, sameX_selfI, bne_self_eq_false, icmp, h2, h4, h6, h8, h43, h45, h47, h49, h74, h76, h78, h80, hβ1, hβ2, hβ3, c31, c133]; done) | (simp [sameG_self, sameX_selfI, bne_self_eq_false, icmp, h2, h4, h6, h8, h43, h45, h47, h49, h74, h76, h78, h80, hβ1, hβ2, hβ3, c31, c133]; done) | (simp_all; done) | (exfalso; simp_all; done)
    exact (by first | with_reducible rfl | rw [x135] | rfl)
  have c133' := c133
  (try simp only [hβ1, hβ2, hβ3, sameG_self, sameX_selfI, bne_self_eq_false] at c133')
  (try simp only [hβ1, hβ2, hβ3] at c133')
  (try simp only [icmp, Bool.and_eq_true, Bool.or_eq_true, Bool.and_eq_false_iff, Bool.or_eq_false_iff, Bool.not_eq_true', Bool.not_eq_false', decide_eq_true_eq, decide_eq_false_iff_not, beq_iff_eq, bne_iff_ne, beq_eq_false_iff_ne, bne_eq_false_iff_eq] at c133')
  refine wp_skip (hK112 _ _ ?_)
  refine wp_seq_k fun K136 hK136 => ?_
  refine wp_seq_k fun K137 hK137 => ?_
  refine region_draw (
    [Fact.pure [] (fun v => v = (.agg #[(Fl r73), (Fl r75), (Fl r77), (Fl r79), (Iv A_g.x), (Iv A_g.y), (Iv A_g.z), (.slice p83 A_g.vals.length q84)])),
    Fact.pure [] (fun v => v = (.agg #[(Fl r1), (Fl r3), (Fl r5), (Fl r7), (Iv A_g.x), (Iv A_g.y), (Iv A_g.z), (.slice p11 A_g.vals.length q12)])),
    Fact.mem [52] (fun v w' => ∃ cs_1 : List Value, ∃ Lw_2 : List Nat, v = (.agg cs_1.toArray) ∧ Hang w128.heap.size w' (fun u => RGridT u A_g cs_1) ∧ WL 1 w128.heap.size w' Lw_2 (cellN cs_1 7) A_g.vals.length) (by rintro v w1 w2 hx ⟨z1, z2, rfl, k0, k1⟩; exact ⟨_, _, rfl, (k0.ext hx), (k1.same (Same.of_ext hx))⟩),
    Fact.pure [51, 53] (fun v => v = (Bo (sameG A_g A_g))),
    Fact.pure [54] (fun v => v = (Bo (!(sameG A_g A_g))))]) mixed (by kernel_rfl) (by intro _ _ d _ _ h; cases d <;> exact h) ?_
  obtain ⟨w138, hw140⟩ : ∃ w', w' = World.drew w128 := ⟨_, rfl⟩; rw [← hw140]; have E139 : Ext w128 w138 := by rw [hw140]; exact Ext.draw _
  clear hw140
  have X141 := Ext.gr X132 E139
  refine RW_d _ rfl (fun v => by dsimp only [List.set]; try rfl) (fun u hu hF => ?_) (fun v142 => ?_)
  · clear hF
    refine doesG_un rfl ?_
    refine (does_loadAgg (cs := [(Fl r73), (Fl r75), (Fl r77), (Fl r79), (Iv A_g.x), (Iv A_g.y), (Iv A_g.z), (.slice p83 A_g.vals.length q84)]) (ev rfl) Try.isAgg49 Try.sizeOf49 (Blk.cells ((((hB96.ext E100).ext E129).ext E139).ext hu)) rfl).mono ?_; rintro _ _ ⟨rfl, rfl⟩
    exact ⟨rfl, Ext.refl _⟩
  refine RW_d _ rfl (fun v => by dsimp only [List.set]; try rfl) (fun u hu hF => ?_) (fun v143 => ?_)
  · clear hF
    refine doesG_un rfl ?_
    refine (does_loadAgg (cs := [(Fl r1), (Fl r3), (Fl r5), (Fl r7), (Iv A_g.x), (Iv A_g.y), (Iv A_g.z), (.slice p11 A_g.vals.length q12)]) (ev rfl) Try.isAgg44 Try.sizeOf44 (Blk.cells ((((((((((hB17.ext E24).ext E34).ext E56).ext E65).ext E90).wr W95 (Nat.ne_of_lt n92)).ext E100).ext E129).ext E139).ext hu)) rfl).mono ?_; rintro _ _ ⟨rfl, rfl⟩
    exact ⟨rfl, Ext.refl _⟩
  refine RW_d _ rfl (fun v => by dsimp only [List.set]; try rfl) (fun u hu hF => ?_) (fun v144 => ?_)
  · have h52_ : v143 = (.agg #[(Fl r1), (Fl r3), (Fl r5), (Fl r7), (Iv A_g.x), (Iv A_g.y), (Iv A_g.z), (.slice p11 A_g.vals.length q12)]) := hF.1
    clear hF
    refine doesG_un rfl ?_
    obtain rfl := h52_
    refine (does_call (args := #[(.agg #[(Fl r1), (Fl r3), (Fl r5), (Fl r7), (Iv A_g.x), (Iv A_g.y), (Iv A_g.z), (.slice p11 A_g.vals.length q12)])]) cal16 (evs rfl) (c_laws_toGrid [(Fl r1), (Fl r3), (Fl r5), (Fl r7), (Iv A_g.x), (Iv A_g.y), (Iv A_g.z), (.slice p11 A_g.vals.length q12)] A_g _ ⟨r1, r3, r5, r7, (.slice p11 A_g.vals.length q12), rfl, h2, h4, h6, h8, (Sl.ext (Sl.ext hs13 RF.mono (Ext.gr X132 E139)) RF.mono hu)⟩ (by omega))).mono ?_; rintro v u' ⟨hx, ⟨csn1, Lwn2, hv, k0, k1⟩⟩
    exact ⟨⟨csn1, Lwn2, hv, (Hang.le k0 (Nat.le_trans (Below.size E139) (Below.size hu))), (WL.le k1 (Nat.le_trans (Below.size E139) (Below.size hu)))⟩, hx⟩
  refine RW_d _ rfl (fun v => by dsimp only [List.set]; try rfl) (fun u hu hF => ?_) (fun v145 => ?_)
  · have h51_ : v142 = (.agg #[(Fl r73), (Fl r75), (Fl r77), (Fl r79), (Iv A_g.x), (Iv A_g.y), (Iv A_g.z), (.slice p83 A_g.vals.length q84)]) := hF.1
    have h53_ : ∃ cs_1 : List Value, ∃ Lw_2 : List Nat, v144 = (.agg cs_1.toArray) ∧ Hang w128.heap.size u (fun u => RGridT u A_g cs_1) ∧ WL 1 w128.heap.size u Lw_2 (cellN cs_1 7) A_g.vals.length := hF.2.1
    clear hF
    refine doesG_un rfl ?_
    obtain rfl := h51_
    obtain ⟨cs53_2, Lw53_3, rfl, hh53_1, hw53_4⟩ := h53_
    obtain ⟨r53_5, r53_7, r53_9, r53_11, y53_13, rfl, h53_6, h53_8, h53_10, h53_12, h53_14⟩ := hh53_1.get
    have hh53_14 := h53_14; obtain ⟨p53_15, q53_16, rfl⟩ := Sl.shape h53_14
    refine (does_call (args := #[(.agg #[(Fl r73), (Fl r75), (Fl r77), (Fl r79), (Iv A_g.x), (Iv A_g.y), (Iv A_g.z), (.slice p83 A_g.vals.length q84)]), (.agg #[(Fl r53_5), (Fl r53_7), (Fl r53_9), (Fl r53_11), (Iv A_g.x), (Iv A_g.y), (Iv A_g.z), (.slice p53_15 A_g.vals.length q53_16)])]) cal18 (evs rfl) (c_laws_eqGrid [(Fl r73), (Fl r75), (Fl r77), (Fl r79), (Iv A_g.x), (Iv A_g.y), (Iv A_g.z), (.slice p83 A_g.vals.length q84)] A_g [(Fl r53_5), (Fl r53_7), (Fl r53_9), (Fl r53_11), (Iv A_g.x), (Iv A_g.y), (Iv A_g.z), (.slice p53_15 A_g.vals.length q53_16)] A_g _ ⟨r73, r75, r77, r79, (.slice p83 A_g.vals.length q84), rfl, h74, h76, h78, h80, (Sl.ext (hh85 _ ((((((Same.refl _ _).ext E90).wr W95 (.inr (Nat.le_trans (Nat.le_refl _) hb88))).ext E100).ext E129).ext E139)) RF.mono hu)⟩ ⟨r53_5, r53_7, r53_9, r53_11, (.slice p53_15 A_g.vals.length q53_16), rfl, (by assumption), (by assumption), (by assumption), (by assumption), hh53_14⟩)).mono ?_; rintro v u' ⟨hx, hv⟩
    exact ⟨hv.trans (by simp only [h53_6, h53_8, h53_10, h53_12]), hx⟩
  refine RW_d _ rfl (fun v => by dsimp only [List.set]; try rfl) (fun u hu hF => ?_) (fun v146 => ?_)
  · have h54_ : v145 = (Bo (sameG A_g A_g)) := hF.1
    clear hF
    refine doesG_un rfl ?_
    obtain rfl := h54_
    refine (does_not (ev rfl)).mono ?_; rintro _ _ ⟨rfl, rfl⟩
    exact ⟨rfl, Ext.refl _⟩
  refine RW_fin ?_; intro w147 E148 hP149
  obtain ⟨⟨⟨⟨⟨-, -⟩, -⟩, -⟩, -⟩, q150⟩ := hP149
  have X151 := Ext.gr X141 E148
  have q150 : v146 = (Bo (!(sameG A_g A_g))) := q150
  obtain rfl := q150
  show wpList _ _ _ _ (fr [_, _, _, _, _, _, _, _, _, _, _, _, _, _, _, _, _, _, _, _, _, _, _, _, _, _, _, _, _, _, _, _, _, _, _, _, _, _, _, _, _, _, _, _, _, _, _, _, _, _, _, _, _, _, _, _, _, _, _, _, _, _, _, _, _, _, _, _, _, _, _, _, _, _, _, _, _, _, _, _, _, _, _, _, _, _, _, _, _, _, _, _, _, _, _, _, _, _, _, _, _, _, _, _, _, _, _, _, _, _, _, _, _, _, _, _, _]) _
  refine wpList_nil (hK137 _ _ ?_)
  refine wp_cond_split (t := !(sameG A_g A_g)) (ev rfl) (fun c152 => ?_) (fun c152 => ?_)
  · rw [Bool.not_eq_true'] at c152
    have c152' := c152
    (try simp only [hβ1, hβ2, hβ3, sameG_self, sameX_selfI, bne_self_eq_false] at c152')
    (try simp only [hβ1, hβ2, hβ3] at c152')
    (try simp only [icmp, Bool.and_eq_true, Bool.or_eq_true, Bool.and_eq_false_iff, Bool.or_eq_false_iff, Bool.not_eq_true', Bool.not_eq_false', decide_eq_true_eq, decide_eq_false_iff_not, beq_iff_eq, bne_iff_ne, beq_eq_false_iff_ne, bne_eq_false_iff_eq] at c152')
    refine wp_seq_k fun K153 hK153 => ?_
    refine wp_region_lit ?_
    refine q_is rfl rfl (does_assign (u := (Bo false)) (ev rfl)) (by dsimp only [List.set]; try rfl) ?_
    refine wpList_nil (hK153 _ _ ?_)
    refine wp_ret ?_
    dsimp only [Exit.then, Exit.inBlock]
    refine ret_val (v := (Bo false)) (res_T rfl (slot rfl)) X151 ?_
    try simp only [h2, h4, h6, h8, h43, h45, h47, h49, h74, h76, h78, h80, hβ1, hβ2, hβ3, sameG_self, sameX_selfI, bne_self_eq_false] at c31 c133 c152
    have x154 : true = false := by first | with_reducible rfl | (exfalso; omega) | (exfalso; simp only [mkL_len] at * <;> omega) | (exfalso; rcases c152' with ((hh | hh) | hh) | hh <;> first | omega | (exact Bool.noConfusion hh) | (exact absurd rfl hh)) | (exfalso; rcases c152' with (hh | hh) | hh <;> first | omega | (exact Bool.noConfusion hh)) | (exfalso; rcases c152' with hh | hh <;> first | omega | (exact Bool.noConfusion hh)) | (simp only [sameG_self, sameX_selfI, bne_self_eq_false, icmp, h2, h4, h6, h8, h43, h45, h47, h49, h74, h76, h78, h80, hβ1, hβ2, hβ3, c31, c133, c152]; done) | (simp [sameG_self, sameX_selfI, bne_self_eq_false, icmp, h2, h4, h6, h8, h43, h45, h47, h49, h74, h76, h78, h80, hβ1, hβ2, hβ3, c31, c133, c152]; done) | (simp_all; done) | (exfalso; simp_all; done)
    exact (by first | with_reducible rfl | rw [x154] | rfl)
  rw [Bool.not_eq_false'] at c152
  have c152' := c152
  (try simp only [hβ1, hβ2, hβ3, sameG_self, sameX_selfI, bne_self_eq_false] at c152')
  (try simp only [hβ1, hβ2, hβ3] at c152')
  (try simp only [icmp, Bool.and_eq_true, Bool.or_eq_true, Bool.and_eq_false_iff, Bool.or_eq_false_iff, Bool.not_eq_true', Bool.not_eq_false', decide_eq_true_eq, decide_eq_false_iff_not, beq_iff_eq, bne_iff_ne, beq_eq_false_iff_ne, bne_eq_false_iff_eq] at c152')
  refine wp_skip (hK136 _ _ ?_)
  refine wp_seq_k fun K155 hK155 => ?_
  refine wp_region_lit ?_
  refine q_is rfl rfl (does_assign (u := (Iv 1)) (ev rfl)) (by dsimp only [List.set]; try rfl) ?_
  refine wpList_nil (hK155 _ _ ?_)
  refine wp_seq_k fun K156 hK156 => ?_
  refine wp_region_lit ?_
  refine q_is rfl rfl (does_loadAgg (cs := [(Fl r73), (Fl r75), (Fl r77), (Fl r79), (Iv A_g.x), (Iv A_g.y), (Iv A_g.z), (.slice p83 A_g.vals.length q84)]) (ev rfl) Try.isAgg49 Try.sizeOf49 (Blk.cells ((((hB96.ext E100).ext E129).ext E139).ext E148)) rfl) (by dsimp only [List.set]; try rfl) ?_
  refine q_is rfl rfl (does_move (u := (Iv 1)) (ev rfl)) (by dsimp only [List.set]; try rfl) ?_
  refine seqd rfl rfl (does_callK (args := #[(.agg #[(Fl r73), (Fl r75), (Fl r77), (Fl r79), (Iv A_g.x), (Iv A_g.y), (Iv A_g.z), (.slice p83 A_g.vals.length q84)]), (Iv 1)]) cal19 (evs rfl) (c_laws_markGrid (Fl r73) (Fl r75) (Fl r77) (Fl r79) (Iv A_g.x) (Iv A_g.y) (Iv A_g.z) (.slice p83 A_g.vals.length q84) A_g.vals.length Lw69 w57.heap.size 1 _ (hw86.same (((((((Same.refl _ _).ext E90).wr W95 (.inr (Nat.le_trans (Nat.le_refl _) hb88))).ext E100).ext E129).ext E139).ext E148)) (by omega) (by first | omega | omega))) ?_; rintro _ w157 ⟨K158, rfl, hM159⟩
  have X160 := Below.kl X151 K158 (fun c hc => Nat.le_trans (Below.size (Ext.gr (Ext.gr (Ext.gr (Ext.gr (Ext.refl _) E18) E24) E34) E56)) (hw86.1 c hc).1) (Nat.le_refl _)
  show wpList _ _ _ _ (fr [_, _, _, _, _, _, _, _, _, _, _, _, _, _, _, _, _, _, _, _, _, _, _, _, _, _, _, _, _, _, _, _, _, _, _, _, _, _, _, _, _, _, _, _, _, _, _, _, _, _, _, _, _, _, _, _, _, _, _, _, _, _, _, _, _, _, _, _, _, _, _, _, _, _, _, _, _, _, _, _, _, _, _, _, _, _, _, _, _, _, _, _, _, _, _, _, _, _, _, _, _, _, _, _, _, _, _, _, _, _, _, _, _, _, _, _, _]) _
  refine q_is rfl rfl (does_assign (u := (Iv (1 + (A_g.vals.length : Int) * 1))) (ev rfl)) (by dsimp only [List.set]; try rfl) ?_
  refine wpList_nil (hK156 _ _ ?_)
  refine wp_seq_k fun K163 hK163 => ?_
  refine wp_seq_k fun K164 hK164 => ?_
  obtain ⟨β4, hβ4⟩ : ∃ b : Bool, b = (icmp .lss (1 + (A_g.vals.length : Int) * 1) 0) := ⟨_, rfl⟩
  obtain ⟨β5, hβ5⟩ : ∃ b : Bool, b = (sameX eqI ((prtG A_g).1) ((prtG A_g).1)) := ⟨_, rfl⟩
  obtain ⟨β6, hβ6⟩ : ∃ b : Bool, b = (icmp .neq ((prtG A_g).2) ((prtG A_g).2)) := ⟨_, rfl⟩
  obtain ⟨β7, hβ7⟩ : ∃ b : Bool, b = ((isGrid A_g) != (isGrid A_g)) := ⟨_, rfl⟩
  obtain ⟨β8, hβ8⟩ : ∃ b : Bool, b = (((β4 || (!β5)) || β6) || β7) := ⟨_, rfl⟩
  refine region_text (
    [Fact.pure [] (fun v => v = (Iv (1 + (A_g.vals.length : Int) * 1))),
    Fact.pure [59] (fun v => v = (Bo β4)),
    Fact.pure [60] (fun v => v = (Bo β4)),
    Fact.pure [61] (fun v => β4 = false → v = (.slice p109 (((prtG A_g).1).length) q110)),
    Fact.pure [61] (fun v => β4 = false → v = (.slice p62 (((prtG A_g).1).length) q63)),
    Fact.pure [62, 63, 61] (fun v => β4 = false → v = (Bo β5)),
    Fact.pure [64, 61] (fun v => β4 = false → v = (Bo (!β5))),
    Fact.pure [61, 65] (fun v => v = (Bo (β4 || (!β5)))),
    Fact.pure [66] (fun v => v = (Bo (β4 || (!β5)))),
    Fact.pure [67] (fun v => (β4 || (!β5)) = false → v = (Iv ((prtG A_g).2))),
    Fact.pure [67] (fun v => (β4 || (!β5)) = false → v = (Iv ((prtG A_g).2))),
    Fact.pure [68, 69, 67] (fun v => (β4 || (!β5)) = false → v = (Bo β6)),
    Fact.pure [67, 70] (fun v => v = (Bo ((β4 || (!β5)) || β6))),
    Fact.pure [71] (fun v => v = (Bo ((β4 || (!β5)) || β6))),
    Fact.pure [72] (fun v => ((β4 || (!β5)) || β6) = false → v = (Bo (isGrid A_g))),
    Fact.pure [72] (fun v => ((β4 || (!β5)) || β6) = false → v = (Bo (isGrid A_g))),
    Fact.pure [73, 74, 72] (fun v => ((β4 || (!β5)) || β6) = false → v = (Bo β7)),
    Fact.pure [72, 75] (fun v => v = (Bo β8))]) (by simp [Fact.pure, Fact.mem]) ?_
  refine RW_d _ rfl (fun v => by dsimp only [List.set]; try rfl) (fun u hu hF => ?_) (fun v165 => ?_)
  · clear hF
    refine doesG_un rfl ?_
    refine (does_move (u := (Iv (1 + (A_g.vals.length : Int) * 1))) (ev rfl)).mono ?_; rintro _ _ ⟨rfl, rfl⟩
    exact ⟨rfl, Ext.refl _⟩
  refine RW_d _ rfl (fun v => by dsimp only [List.set]; try rfl) (fun u hu hF => ?_) (fun v166 => ?_)
  · have h59_ : v165 = (Iv (1 + (A_g.vals.length : Int) * 1)) := hF.1
    clear hF
    refine doesG_un rfl ?_
    obtain rfl := h59_
    refine (does_icmp (p := 1 + (A_g.vals.length : Int) * 1) (q := 0) (.inr (.inr (.inl rfl))) (ev rfl) (ev rfl)).mono ?_; rintro _ _ ⟨rfl, rfl⟩
    exact ⟨(by first | rfl | (show _ = _; simp only [hβ4]; done) | (show _ = _; simp only [hβ4]; rfl)), Ext.refl _⟩
  refine RW_d _ rfl (fun v => by dsimp only [List.set]; try rfl) (fun u hu hF => ?_) (fun v167 => ?_)
  · have h60_ : v166 = (Bo β4) := hF.1
    clear hF
    refine doesG_un rfl ?_
    obtain rfl := h60_
    refine (does_move (u := (Bo β4)) (ev rfl)).mono ?_; rintro _ _ ⟨rfl, rfl⟩
    exact ⟨rfl, Ext.refl _⟩
  refine RW_d _ rfl (fun v => by dsimp only [List.set]; try rfl) (fun u hu hF => ?_) (fun v168 => ?_)
  · have h61_ : v167 = (Bo β4) := hF.1
    clear hF
    obtain rfl := h61_
    refine doesG_g (b := β4) rfl (yld rfl rfl) (fun hg1 => ?_) (fun hc => ⟨fun hg1 => absurd hg1 hc, Ext.refl _⟩)
    refine (does_move (u := (.slice p109 (((prtG A_g).1).length) q110)) (ev rfl)).mono ?_; rintro _ _ ⟨rfl, rfl⟩
    exact ⟨fun _ => rfl, Ext.refl _⟩
  refine RW_d _ rfl (fun v => by dsimp only [List.set]; try rfl) (fun u hu hF => ?_) (fun v169 => ?_)
  · have h61_ : v167 = (Bo β4) := hF.1
    clear hF
    obtain rfl := h61_
    refine doesG_g (b := β4) rfl (yld rfl rfl) (fun hg1 => ?_) (fun hc => ⟨fun hg1 => absurd hg1 hc, Ext.refl _⟩)
    refine (does_move (u := (.slice p62 (((prtG A_g).1).length) q63)) (ev rfl)).mono ?_; rintro _ _ ⟨rfl, rfl⟩
    exact ⟨fun _ => rfl, Ext.refl _⟩
  refine RW_d _ rfl (fun v => by dsimp only [List.set]; try rfl) (fun u hu hF => ?_) (fun v170 => ?_)
  · have h62_ : β4 = false → v168 = (.slice p109 (((prtG A_g).1).length) q110) := hF.1
    have h63_ : β4 = false → v169 = (.slice p62 (((prtG A_g).1).length) q63) := hF.2.1
    have h61_ : v167 = (Bo β4) := hF.2.2.1
    clear hF
    obtain rfl := h61_
    refine doesG_g (b := β4) rfl (yld rfl rfl) (fun hg1 => ?_) (fun hc => ⟨fun hg1 => absurd hg1 hc, Ext.refl _⟩)
    obtain rfl := h62_ hg1
    obtain rfl := h63_ hg1
    refine (does_call (args := #[(.slice p109 (((prtG A_g).1).length) q110), (.slice p62 (((prtG A_g).1).length) q63)]) cal9 (evs rfl) (c_laws_eqInt64S (.slice p109 (((prtG A_g).1).length) q110) ((prtG A_g).1) (.slice p62 (((prtG A_g).1).length) q63) ((prtG A_g).1) _ (Sl.ext (hh102 _ (((((Same.refl _ _).ext E129).ext E139).ext E148).kl K158 (fun c hc => .inl (Nat.lt_of_lt_of_le (hw86.1 c hc).2 (Nat.le_trans (Below.size E90) (Nat.le_of_eq (Eq.symm (Wr.size W95)))))))) RI.mono hu) (Sl.ext (hh58 _ (((((((((Same.refl _ _).ext E65).ext E90).wr W95 (.inr (Nat.le_trans (Below.size E65) hb88))).ext E100).ext E129).ext E139).ext E148).kl K158 (fun c hc => .inr (Nat.le_trans (Nat.le_refl _) (hw86.1 c hc).1)))) RI.mono hu))).mono ?_; rintro v u' ⟨hx, hv⟩
    exact ⟨fun _ => hv.trans (by simp only [hβ5]), hx⟩
  refine RW_d _ rfl (fun v => by dsimp only [List.set]; try rfl) (fun u hu hF => ?_) (fun v171 => ?_)
  · have h64_ : β4 = false → v170 = (Bo β5) := hF.1
    have h61_ : v167 = (Bo β4) := hF.2.1
    clear hF
    obtain rfl := h61_
    refine doesG_g (b := β4) rfl (yld rfl rfl) (fun hg1 => ?_) (fun hc => ⟨fun hg1 => absurd hg1 hc, Ext.refl _⟩)
    obtain rfl := h64_ hg1
    refine (does_not (ev rfl)).mono ?_; rintro _ _ ⟨rfl, rfl⟩
    exact ⟨fun _ => rfl, Ext.refl _⟩
  refine RW_d _ rfl (fun v => by dsimp only [List.set]; try rfl) (fun u hu hF => ?_) (fun v172 => ?_)
  · have h61_ : v167 = (Bo β4) := hF.1
    have h65_ : β4 = false → v171 = (Bo (!β5)) := hF.2.1
    clear hF
    refine doesG_un rfl ?_
    skip
    obtain rfl := h61_
    refine (does_pick (b := β4) (u := (Bo true)) (v := v171) (ev rfl) (ev rfl) (ev rfl)).mono ?_; rintro _ _ ⟨rfl, rfl⟩; refine ⟨?_, Ext.refl _⟩; skip
    cases hbb : β4
    all_goals first | (show _ = _; simp only [↓reduceIte, Bool.true_and, Bool.false_and, Bool.true_or, Bool.false_or, Bool.false_eq_true]; done) | (have e_ := h65_ hbb; subst e_; show _ = _; simp only [↓reduceIte, Bool.true_and, Bool.false_and, Bool.true_or, Bool.false_or, Bool.false_eq_true]; done) | rfl | (have e_ := h65_ hbb; subst e_; rfl) | (simp [hbb] at h65_ ⊢; first | done | rfl | (subst h65_; rfl) | simp_all) | (simp [hbb] at h65_ ⊢; done)
  refine RW_d _ rfl (fun v => by dsimp only [List.set]; try rfl) (fun u hu hF => ?_) (fun v173 => ?_)
  · have h66_ : v172 = (Bo (β4 || (!β5))) := hF.1
    clear hF
    refine doesG_un rfl ?_
    obtain rfl := h66_
    refine (does_move (u := (Bo (β4 || (!β5)))) (ev rfl)).mono ?_; rintro _ _ ⟨rfl, rfl⟩
    exact ⟨rfl, Ext.refl _⟩
  refine RW_d _ rfl (fun v => by dsimp only [List.set]; try rfl) (fun u hu hF => ?_) (fun v174 => ?_)
  · have h67_ : v173 = (Bo (β4 || (!β5))) := hF.1
    clear hF
    obtain rfl := h67_
    refine doesG_g (b := (β4 || (!β5))) rfl (yld rfl rfl) (fun hg1 => ?_) (fun hc => ⟨fun hg1 => absurd hg1 hc, Ext.refl _⟩)
    refine (does_move (u := (Iv ((prtG A_g).2))) (ev rfl)).mono ?_; rintro _ _ ⟨rfl, rfl⟩
    exact ⟨fun _ => rfl, Ext.refl _⟩
  refine RW_d _ rfl (fun v => by dsimp only [List.set]; try rfl) (fun u hu hF => ?_) (fun v175 => ?_)
  · have h67_ : v173 = (Bo (β4 || (!β5))) := hF.1
    clear hF
    obtain rfl := h67_
    refine doesG_g (b := (β4 || (!β5))) rfl (yld rfl rfl) (fun hg1 => ?_) (fun hc => ⟨fun hg1 => absurd hg1 hc, Ext.refl _⟩)
    refine (does_move (u := (Iv ((prtG A_g).2))) (ev rfl)).mono ?_; rintro _ _ ⟨rfl, rfl⟩
    exact ⟨fun _ => rfl, Ext.refl _⟩
  refine RW_d _ rfl (fun v => by dsimp only [List.set]; try rfl) (fun u hu hF => ?_) (fun v176 => ?_)
  · have h68_ : (β4 || (!β5)) = false → v174 = (Iv ((prtG A_g).2)) := hF.1
    have h69_ : (β4 || (!β5)) = false → v175 = (Iv ((prtG A_g).2)) := hF.2.1
    have h67_ : v173 = (Bo (β4 || (!β5))) := hF.2.2.1
    clear hF
    obtain rfl := h67_
    refine doesG_g (b := (β4 || (!β5))) rfl (yld rfl rfl) (fun hg1 => ?_) (fun hc => ⟨fun hg1 => absurd hg1 hc, Ext.refl _⟩)
    obtain rfl := h68_ hg1
    obtain rfl := h69_ hg1
    refine (does_icmp (p := (prtG A_g).2) (q := (prtG A_g).2) (.inr (.inl rfl)) (ev rfl) (ev rfl)).mono ?_; rintro _ _ ⟨rfl, rfl⟩
    exact ⟨fun _ => (by first | rfl | (show _ = _; simp only [hβ6]; done) | (show _ = _; simp only [hβ6]; rfl)), Ext.refl _⟩
  refine RW_d _ rfl (fun v => by dsimp only [List.set]; try rfl) (fun u hu hF => ?_) (fun v177 => ?_)
  · have h67_ : v173 = (Bo (β4 || (!β5))) := hF.1
    have h70_ : (β4 || (!β5)) = false → v176 = (Bo β6) := hF.2.1
    clear hF
    refine doesG_un rfl ?_
    skip
    obtain rfl := h67_
    refine (does_pick (b := (β4 || (!β5))) (u := (Bo true)) (v := v176) (ev rfl) (ev rfl) (ev rfl)).mono ?_; rintro _ _ ⟨rfl, rfl⟩; refine ⟨?_, Ext.refl _⟩; skip
    cases hbb : (β4 || (!β5))
    all_goals first | (show _ = _; simp only [↓reduceIte, Bool.true_and, Bool.false_and, Bool.true_or, Bool.false_or, Bool.false_eq_true]; done) | (have e_ := h70_ hbb; subst e_; show _ = _; simp only [↓reduceIte, Bool.true_and, Bool.false_and, Bool.true_or, Bool.false_or, Bool.false_eq_true]; done) | rfl | (have e_ := h70_ hbb; subst e_; rfl) | (simp [hbb] at h70_ ⊢; first | done | rfl | (subst h70_; rfl) | simp_all) | (simp [hbb] at h70_ ⊢; done)
  refine RW_d _ rfl (fun v => by dsimp only [List.set]; try rfl) (fun u hu hF => ?_) (fun v178 => ?_)
  · have h71_ : v177 = (Bo ((β4 || (!β5)) || β6)) := hF.1
    clear hF
    refine doesG_un rfl ?_
    obtain rfl := h71_
    refine (does_move (u := (Bo ((β4 || (!β5)) || β6))) (ev rfl)).mono ?_; rintro _ _ ⟨rfl, rfl⟩
    exact ⟨rfl, Ext.refl _⟩
  refine RW_d _ rfl (fun v => by dsimp only [List.set]; try rfl) (fun u hu hF => ?_) (fun v179 => ?_)
  · have h72_ : v178 = (Bo ((β4 || (!β5)) || β6)) := hF.1
    clear hF
    obtain rfl := h72_
    refine doesG_g (b := ((β4 || (!β5)) || β6)) rfl (yld rfl rfl) (fun hg1 => ?_) (fun hc => ⟨fun hg1 => absurd hg1 hc, Ext.refl _⟩)
    refine (does_move (u := (Bo (isGrid A_g))) (ev rfl)).mono ?_; rintro _ _ ⟨rfl, rfl⟩
    exact ⟨fun _ => rfl, Ext.refl _⟩
  refine RW_d _ rfl (fun v => by dsimp only [List.set]; try rfl) (fun u hu hF => ?_) (fun v180 => ?_)
  · have h72_ : v178 = (Bo ((β4 || (!β5)) || β6)) := hF.1
    clear hF
    obtain rfl := h72_
    refine doesG_g (b := ((β4 || (!β5)) || β6)) rfl (yld rfl rfl) (fun hg1 => ?_) (fun hc => ⟨fun hg1 => absurd hg1 hc, Ext.refl _⟩)
    refine (does_move (u := (Bo (isGrid A_g))) (ev rfl)).mono ?_; rintro _ _ ⟨rfl, rfl⟩
    exact ⟨fun _ => rfl, Ext.refl _⟩
  refine RW_d _ rfl (fun v => by dsimp only [List.set]; try rfl) (fun u hu hF => ?_) (fun v181 => ?_)
  · have h73_ : ((β4 || (!β5)) || β6) = false → v179 = (Bo (isGrid A_g)) := hF.1
    have h74_ : ((β4 || (!β5)) || β6) = false → v180 = (Bo (isGrid A_g)) := hF.2.1
    have h72_ : v178 = (Bo ((β4 || (!β5)) || β6)) := hF.2.2.1
    clear hF
    obtain rfl := h72_
    refine doesG_g (b := ((β4 || (!β5)) || β6)) rfl (yld rfl rfl) (fun hg1 => ?_) (fun hc => ⟨fun hg1 => absurd hg1 hc, Ext.refl _⟩)
    obtain rfl := h73_ hg1
    obtain rfl := h74_ hg1
    refine (does_bne (p := (isGrid A_g)) (q := (isGrid A_g)) Try.underlying4 (ev rfl) (ev rfl)).mono ?_; rintro _ _ ⟨rfl, rfl⟩
    exact ⟨fun _ => (by first | rfl | (show _ = _; simp only [hβ7]; done) | (show _ = _; simp only [hβ7]; rfl)), Ext.refl _⟩
  refine RW_d _ rfl (fun v => by dsimp only [List.set]; try rfl) (fun u hu hF => ?_) (fun v182 => ?_)
  · have h72_ : v178 = (Bo ((β4 || (!β5)) || β6)) := hF.1
    have h75_ : ((β4 || (!β5)) || β6) = false → v181 = (Bo β7) := hF.2.1
    clear hF
    refine doesG_un rfl ?_
    skip
    obtain rfl := h72_
    refine (does_pick (b := ((β4 || (!β5)) || β6)) (u := (Bo true)) (v := v181) (ev rfl) (ev rfl) (ev rfl)).mono ?_; rintro _ _ ⟨rfl, rfl⟩; refine ⟨?_, Ext.refl _⟩; rw [hβ8]; skip
    cases hbb : ((β4 || (!β5)) || β6)
    all_goals first | (show _ = _; simp only [↓reduceIte, Bool.true_and, Bool.false_and, Bool.true_or, Bool.false_or, Bool.false_eq_true]; done) | (have e_ := h75_ hbb; subst e_; show _ = _; simp only [↓reduceIte, Bool.true_and, Bool.false_and, Bool.true_or, Bool.false_or, Bool.false_eq_true]; done) | rfl | (have e_ := h75_ hbb; subst e_; rfl) | (simp [hbb] at h75_ ⊢; first | done | rfl | (subst h75_; rfl) | simp_all) | (simp [hbb] at h75_ ⊢; done)
  refine RW_fin ?_; intro w183 E184 hP185
  obtain ⟨⟨⟨⟨⟨⟨⟨⟨⟨⟨⟨⟨⟨⟨⟨⟨⟨⟨-, -⟩, -⟩, -⟩, -⟩, -⟩, -⟩, -⟩, -⟩, -⟩, -⟩, -⟩, -⟩, -⟩, -⟩, -⟩, -⟩, -⟩, q186⟩ := hP185
  have X187 := Ext.gr X160 E184
  have q186 : v182 = (Bo β8) := q186
  obtain rfl := q186
  show wpList _ _ _ _ (fr [_, _, _, _, _, _, _, _, _, _, _, _, _, _, _, _, _, _, _, _, _, _, _, _, _, _, _, _, _, _, _, _, _, _, _, _, _, _, _, _, _, _, _, _, _, _, _, _, _, _, _, _, _, _, _, _, _, _, _, _, _, _, _, _, _, _, _, _, _, _, _, _, _, _, _, _, _, _, _, _, _, _, _, _, _, _, _, _, _, _, _, _, _, _, _, _, _, _, _, _, _, _, _, _, _, _, _, _, _, _, _, _, _, _, _, _, _]) _
  refine wpList_nil (hK164 _ _ ?_)
  refine wp_cond_split (t := β8) (ev rfl) (fun c188 => ?_) (fun c188 => ?_)
  · have c188' := c188
    (try simp only [hβ1, hβ2, hβ3, hβ4, hβ5, hβ6, hβ7, hβ8, sameG_self, sameX_selfI, bne_self_eq_false] at c188')
    (try simp only [hβ1, hβ2, hβ3, hβ4, hβ5, hβ6, hβ7, hβ8] at c188')
    (try simp only [icmp, Bool.and_eq_true, Bool.or_eq_true, Bool.and_eq_false_iff, Bool.or_eq_false_iff, Bool.not_eq_true', Bool.not_eq_false', decide_eq_true_eq, decide_eq_false_iff_not, beq_iff_eq, bne_iff_ne, beq_eq_false_iff_ne, bne_eq_false_iff_eq] at c188')
    refine wp_seq_k fun K189 hK189 => ?_
    refine wp_region_lit ?_
    refine q_is rfl rfl (does_assign (u := (Bo false)) (ev rfl)) (by dsimp only [List.set]; try rfl) ?_
    refine wpList_nil (hK189 _ _ ?_)
    refine wp_ret ?_
    dsimp only [Exit.then, Exit.inBlock]
    refine ret_val (v := (Bo false)) (res_T rfl (slot rfl)) X187 ?_
    try simp only [h2, h4, h6, h8, h43, h45, h47, h49, h74, h76, h78, h80, hβ1, hβ2, hβ3, hβ4, hβ5, hβ6, hβ7, hβ8, sameG_self, sameX_selfI, bne_self_eq_false] at c31 c133 c152 c188
    have x190 : true = false := by first | with_reducible rfl | (exfalso; omega) | (exfalso; simp only [mkL_len] at * <;> omega) | (exfalso; rcases c188' with ((hh | hh) | hh) | hh <;> first | omega | (exact Bool.noConfusion hh) | (exact absurd rfl hh)) | (exfalso; rcases c188' with (hh | hh) | hh <;> first | omega | (exact Bool.noConfusion hh)) | (exfalso; rcases c188' with hh | hh <;> first | omega | (exact Bool.noConfusion hh)) | (simp only [sameG_self, sameX_selfI, bne_self_eq_false, icmp, h2, h4, h6, h8, h43, h45, h47, h49, h74, h76, h78, h80, hβ1, hβ2, hβ3, hβ4, hβ5, hβ6, hβ7, hβ8, c31, c133, c152, c188]; done) | (simp [sameG_self, sameX_selfI, bne_self_eq_false, icmp, h2, h4, h6, h8, h43, h45, h47, h49, h74, h76, h78, h80, hβ1, hβ2, hβ3, hβ4, hβ5, hβ6, hβ7, hβ8, c31, c133, c152, c188]; done) | (simp_all; done) | (exfalso; simp_all; done)
    exact (by first | with_reducible rfl | rw [x190] | rfl)
  have c188' := c188
  (try simp only [hβ1, hβ2, hβ3, hβ4, hβ5, hβ6, hβ7, hβ8, sameG_self, sameX_selfI, bne_self_eq_false] at c188')
  (try simp only [hβ1, hβ2, hβ3, hβ4, hβ5, hβ6, hβ7, hβ8] at c188')
  (try simp only [icmp, Bool.and_eq_true, Bool.or_eq_true, Bool.and_eq_false_iff, Bool.or_eq_false_iff, Bool.not_eq_true', Bool.not_eq_false', decide_eq_true_eq, decide_eq_false_iff_not, beq_iff_eq, bne_iff_ne, beq_eq_false_iff_ne, bne_eq_false_iff_eq] at c188')
  refine wp_skip (hK163 _ _ ?_)
  refine wp_seq_k fun K191 hK191 => ?_
  refine wp_region_lit ?_
  refine q_is rfl rfl (does_assign (u := (Iv 1)) (ev rfl)) (by dsimp only [List.set]; try rfl) ?_
  refine wpList_nil (hK191 _ _ ?_)
  refine wp_seq_k fun K192 hK192 => ?_
  refine wp_region_lit ?_
  refine q_is rfl rfl (does_move (u := (.slice p109 (((prtG A_g).1).length) q110)) (ev rfl)) (by dsimp only [List.set]; try rfl) ?_
  refine q_is rfl rfl (does_move (u := (Iv 1)) (ev rfl)) (by dsimp only [List.set]; try rfl) ?_
  refine seqd rfl rfl (does_callK (args := #[(.slice p109 (((prtG A_g).1).length) q110), (Iv 1)]) cal12 (evs rfl) (c_laws_markInt64S (.slice p109 (((prtG A_g).1).length) q110) ((prtG A_g).1).length Lw104 w97.heap.size 1 _ (hw111.same ((((((Same.refl _ _).ext E129).ext E139).ext E148).kl K158 (fun c hc => .inl (Nat.lt_of_lt_of_le (hw86.1 c hc).2 (Nat.le_trans (Below.size E90) (Nat.le_of_eq (Eq.symm (Wr.size W95))))))).ext E184)) (by omega) (by first | omega | omega))) ?_; rintro _ w193 ⟨K194, rfl, hM195⟩
  have X196 := Below.kl X187 K194 (fun c hc => Nat.le_trans (Below.size (Below.wr (Ext.gr (Ext.gr (Ext.gr (Ext.gr (Ext.gr (Ext.gr (Ext.refl _) E18) E24) E34) E56) E65) E90) W95 g93)) (hw111.1 c hc).1) (Nat.le_refl _)
  show wpList _ _ _ _ (fr [_, _, _, _, _, _, _, _, _, _, _, _, _, _, _, _, _, _, _, _, _, _, _, _, _, _, _, _, _, _, _, _, _, _, _, _, _, _, _, _, _, _, _, _, _, _, _, _, _, _, _, _, _, _, _, _, _, _, _, _, _, _, _, _, _, _, _, _, _, _, _, _, _, _, _, _, _, _, _, _, _, _, _, _, _, _, _, _, _, _, _, _, _, _, _, _, _, _, _, _, _, _, _, _, _, _, _, _, _, _, _, _, _, _, _, _, _]) _
  refine q_is rfl rfl (does_assign (u := (Iv (1 + (((prtG A_g).1).length : Int) * 1))) (ev rfl)) (by dsimp only [List.set]; try rfl) ?_
  refine wpList_nil (hK192 _ _ ?_)
  refine wp_seq_k fun K199 hK199 => ?_
  refine wp_region_lit ?_
  refine q_is rfl rfl (does_assign (u := (Iv 1)) (ev rfl)) (by dsimp only [List.set]; try rfl) ?_
  refine wpList_nil (hK199 _ _ ?_)
  refine wp_seq_k fun K200 hK200 => ?_
  refine wp_region_lit ?_
  refine q_is rfl rfl (does_move (u := (.slice p109 (((prtG A_g).1).length) q110)) (ev rfl)) (by dsimp only [List.set]; try rfl) ?_
  refine q_is rfl rfl (does_move (u := (Iv 1)) (ev rfl)) (by dsimp only [List.set]; try rfl) ?_
  refine seqd rfl rfl (does_call (args := #[(.slice p109 (((prtG A_g).1).length) q110), (Iv 1)]) cal13 (evs rfl) (c_laws_heldInt64S (.slice p109 (((prtG A_g).1).length) q110) (mkL fI 1 1 ((prtG A_g).1).length) 1 _ hM195.get (by exact mkL_eq) (by omega) (by (try dsimp only); rw [mkL_len]; omega))) ?_; rintro _ w202 ⟨E201, rfl⟩
  have X203 := Ext.gr X196 E201
  show wpList _ _ _ _ (fr [_, _, _, _, _, _, _, _, _, _, _, _, _, _, _, _, _, _, _, _, _, _, _, _, _, _, _, _, _, _, _, _, _, _, _, _, _, _, _, _, _, _, _, _, _, _, _, _, _, _, _, _, _, _, _, _, _, _, _, _, _, _, _, _, _, _, _, _, _, _, _, _, _, _, _, _, _, _, _, _, _, _, _, _, _, _, _, _, _, _, _, _, _, _, _, _, _, _, _, _, _, _, _, _, _, _, _, _, _, _, _, _, _, _, _, _, _]) _
  refine q_is rfl rfl (does_assign (u := (Iv (1 + ((mkL fI 1 1 ((prtG A_g).1).length).length : Int) * 1))) (ev rfl)) (by dsimp only [List.set]; try rfl) ?_
  refine wpList_nil (hK200 _ _ ?_)
  refine wp_seq_k fun K204 hK204 => ?_
  refine wp_seq_k fun K205 hK205 => ?_
  refine wp_region_lit ?_
  refine q_is rfl rfl (does_move (u := (Iv (1 + ((mkL fI 1 1 ((prtG A_g).1).length).length : Int) * 1))) (ev rfl)) (by dsimp only [List.set]; try rfl) ?_
  refine q_is rfl rfl (does_icmp (p := 1 + ((mkL fI 1 1 ((prtG A_g).1).length).length : Int) * 1) (q := 0) (.inr (.inr (.inl rfl))) (ev rfl) (ev rfl)) (by dsimp only [List.set]; try rfl) ?_
  refine wpList_nil (hK205 _ _ ?_)
  refine wp_cond_split (t := icmp .lss (1 + ((mkL fI 1 1 ((prtG A_g).1).length).length : Int) * 1) 0) (ev rfl) (fun c206 => ?_) (fun c206 => ?_)
  · have c206' := c206
    (try simp only [hβ1, hβ2, hβ3, hβ4, hβ5, hβ6, hβ7, hβ8, sameG_self, sameX_selfI, bne_self_eq_false] at c206')
    (try simp only [hβ1, hβ2, hβ3, hβ4, hβ5, hβ6, hβ7, hβ8] at c206')
    (try simp only [icmp, Bool.and_eq_true, Bool.or_eq_true, Bool.and_eq_false_iff, Bool.or_eq_false_iff, Bool.not_eq_true', Bool.not_eq_false', decide_eq_true_eq, decide_eq_false_iff_not, beq_iff_eq, bne_iff_ne, beq_eq_false_iff_ne, bne_eq_false_iff_eq] at c206')
    refine wp_seq_k fun K207 hK207 => ?_
    refine wp_region_lit ?_
    refine q_is rfl rfl (does_assign (u := (Bo false)) (ev rfl)) (by dsimp only [List.set]; try rfl) ?_
    refine wpList_nil (hK207 _ _ ?_)
    refine wp_ret ?_
    dsimp only [Exit.then, Exit.inBlock]
    refine ret_val (v := (Bo false)) (res_T rfl (slot rfl)) X203 ?_
    try simp only [h2, h4, h6, h8, h43, h45, h47, h49, h74, h76, h78, h80, hβ1, hβ2, hβ3, hβ4, hβ5, hβ6, hβ7, hβ8, sameG_self, sameX_selfI, bne_self_eq_false] at c31 c133 c152 c188 c206
    have x208 : true = false := by first | with_reducible rfl | (exfalso; omega) | (exfalso; simp only [mkL_len] at * <;> omega) | (exfalso; rcases c206' with ((hh | hh) | hh) | hh <;> first | omega | (exact Bool.noConfusion hh) | (exact absurd rfl hh)) | (exfalso; rcases c206' with (hh | hh) | hh <;> first | omega | (exact Bool.noConfusion hh)) | (exfalso; rcases c206' with hh | hh <;> first | omega | (exact Bool.noConfusion hh)) | (simp only [sameG_self, sameX_selfI, bne_self_eq_false, icmp, h2, h4, h6, h8, h43, h45, h47, h49, h74, h76, h78, h80, hβ1, hβ2, hβ3, hβ4, hβ5, hβ6, hβ7, hβ8, c31, c133, c152, c188, c206]; done) | (simp [sameG_self, sameX_selfI, bne_self_eq_false, icmp, h2, h4, h6, h8, h43, h45, h47, h49, h74, h76, h78, h80, hβ1, hβ2, hβ3, hβ4, hβ5, hβ6, hβ7, hβ8, c31, c133, c152, c188, c206]; done) | (simp_all; done) | (exfalso; simp_all; done)
    exact (by first | with_reducible rfl | rw [x208] | rfl)
  have c206' := c206
  (try simp only [hβ1, hβ2, hβ3, hβ4, hβ5, hβ6, hβ7, hβ8, sameG_self, sameX_selfI, bne_self_eq_false] at c206')
  (try simp only [hβ1, hβ2, hβ3, hβ4, hβ5, hβ6, hβ7, hβ8] at c206')
  (try simp only [icmp, Bool.and_eq_true, Bool.or_eq_true, Bool.and_eq_false_iff, Bool.or_eq_false_iff, Bool.not_eq_true', Bool.not_eq_false', decide_eq_true_eq, decide_eq_false_iff_not, beq_iff_eq, bne_iff_ne, beq_eq_false_iff_ne, bne_eq_false_iff_eq] at c206')
  refine wp_skip (hK204 _ _ ?_)
  refine wp_seq_k fun K209 hK209 => ?_
  refine wp_seq_k fun K210 hK210 => ?_
  refine wp_region_lit ?_
  refine q_is rfl rfl (does_move (u := (Iv (1 + ((mkL fI 1 1 ((prtG A_g).1).length).length : Int) * 1))) (ev rfl)) (by dsimp only [List.set]; try rfl) ?_
  refine q_is rfl rfl (does_move (u := (Iv (1 + (((prtG A_g).1).length : Int) * 1))) (ev rfl)) (by dsimp only [List.set]; try rfl) ?_
  refine q_is rfl rfl (does_icmp (p := 1 + ((mkL fI 1 1 ((prtG A_g).1).length).length : Int) * 1) (q := 1 + (((prtG A_g).1).length : Int) * 1) (.inr (.inl rfl)) (ev rfl) (ev rfl)) (by dsimp only [List.set]; try rfl) ?_
  refine wpList_nil (hK210 _ _ ?_)
  refine wp_cond_split (t := icmp .neq (1 + ((mkL fI 1 1 ((prtG A_g).1).length).length : Int) * 1) (1 + (((prtG A_g).1).length : Int) * 1)) (ev rfl) (fun c211 => ?_) (fun c211 => ?_)
  · have c211' := c211
    (try simp only [hβ1, hβ2, hβ3, hβ4, hβ5, hβ6, hβ7, hβ8, sameG_self, sameX_selfI, bne_self_eq_false] at c211')
    (try simp only [hβ1, hβ2, hβ3, hβ4, hβ5, hβ6, hβ7, hβ8] at c211')
    (try simp only [icmp, Bool.and_eq_true, Bool.or_eq_true, Bool.and_eq_false_iff, Bool.or_eq_false_iff, Bool.not_eq_true', Bool.not_eq_false', decide_eq_true_eq, decide_eq_false_iff_not, beq_iff_eq, bne_iff_ne, beq_eq_false_iff_ne, bne_eq_false_iff_eq] at c211')
    refine wp_seq_k fun K212 hK212 => ?_
    refine wp_region_lit ?_
    refine q_is rfl rfl (does_assign (u := (Bo false)) (ev rfl)) (by dsimp only [List.set]; try rfl) ?_
    refine wpList_nil (hK212 _ _ ?_)
    refine wp_ret ?_
    dsimp only [Exit.then, Exit.inBlock]
    refine ret_val (v := (Bo false)) (res_T rfl (slot rfl)) X203 ?_
    try simp only [h2, h4, h6, h8, h43, h45, h47, h49, h74, h76, h78, h80, hβ1, hβ2, hβ3, hβ4, hβ5, hβ6, hβ7, hβ8, sameG_self, sameX_selfI, bne_self_eq_false] at c31 c133 c152 c188 c206 c211
    have x213 : true = false := by first | with_reducible rfl | (exfalso; omega) | (exfalso; simp only [mkL_len] at * <;> omega) | (exfalso; rcases c211' with ((hh | hh) | hh) | hh <;> first | omega | (exact Bool.noConfusion hh) | (exact absurd rfl hh)) | (exfalso; rcases c211' with (hh | hh) | hh <;> first | omega | (exact Bool.noConfusion hh)) | (exfalso; rcases c211' with hh | hh <;> first | omega | (exact Bool.noConfusion hh)) | (simp only [sameG_self, sameX_selfI, bne_self_eq_false, icmp, h2, h4, h6, h8, h43, h45, h47, h49, h74, h76, h78, h80, hβ1, hβ2, hβ3, hβ4, hβ5, hβ6, hβ7, hβ8, c31, c133, c152, c188, c206, c211]; done) | (simp [sameG_self, sameX_selfI, bne_self_eq_false, icmp, h2, h4, h6, h8, h43, h45, h47, h49, h74, h76, h78, h80, hβ1, hβ2, hβ3, hβ4, hβ5, hβ6, hβ7, hβ8, c31, c133, c152, c188, c206, c211]; done) | (simp_all; done) | (exfalso; simp_all; done)
    exact (by first | with_reducible rfl | rw [x213] | rfl)
  have c211' := c211
  (try simp only [hβ1, hβ2, hβ3, hβ4, hβ5, hβ6, hβ7, hβ8, sameG_self, sameX_selfI, bne_self_eq_false] at c211')
  (try simp only [hβ1, hβ2, hβ3, hβ4, hβ5, hβ6, hβ7, hβ8] at c211')
  (try simp only [icmp, Bool.and_eq_true, Bool.or_eq_true, Bool.and_eq_false_iff, Bool.or_eq_false_iff, Bool.not_eq_true', Bool.not_eq_false', decide_eq_true_eq, decide_eq_false_iff_not, beq_iff_eq, bne_iff_ne, beq_eq_false_iff_ne, bne_eq_false_iff_eq] at c211')
  refine wp_skip (hK209 _ _ ?_)
  refine wp_seq_k fun K214 hK214 => ?_
  refine wp_region_lit ?_
  refine q_is rfl rfl (does_loadAgg (cs := [(Fl r1), (Fl r3), (Fl r5), (Fl r7), (Iv A_g.x), (Iv A_g.y), (Iv A_g.z), (.slice p11 A_g.vals.length q12)]) (ev rfl) Try.isAgg44 Try.sizeOf44 (Blk.cells ((((((((((((((hB17.ext E24).ext E34).ext E56).ext E65).ext E90).wr W95 (Nat.ne_of_lt n92)).ext E100).ext E129).ext E139).ext E148).kl K158 (fun hc => absurd (hw86.1 _ hc).1 (Nat.not_le_of_lt n72))).ext E184).kl K194 (fun hc => absurd (hw111.1 _ hc).1 (Nat.not_le_of_lt n107))).ext E201)) rfl) (by dsimp only [List.set]; try rfl) ?_
  refine seqd rfl rfl (does_call (args := #[(.agg #[(Fl r1), (Fl r3), (Fl r5), (Fl r7), (Iv A_g.x), (Iv A_g.y), (Iv A_g.z), (.slice p11 A_g.vals.length q12)])]) cal16 (evs rfl) (c_laws_toGrid [(Fl r1), (Fl r3), (Fl r5), (Fl r7), (Iv A_g.x), (Iv A_g.y), (Iv A_g.z), (.slice p11 A_g.vals.length q12)] A_g _ ⟨r1, r3, r5, r7, (.slice p11 A_g.vals.length q12), rfl, h2, h4, h6, h8, (Sl.ext hs13 RF.mono X203)⟩ (by omega))) ?_; rintro _ w216 ⟨E215, ⟨cs218, Lw219, rfl, hh217, hw220⟩⟩
  have X221 := Ext.gr X203 E215
  have n222 : b15 < w202.heap.size := Blk.lt ((((((((((((((hB17.ext E24).ext E34).ext E56).ext E65).ext E90).wr W95 (Nat.ne_of_lt n92)).ext E100).ext E129).ext E139).ext E148).kl K158 (fun hc => absurd (hw86.1 _ hc).1 (Nat.not_le_of_lt n72))).ext E184).kl K194 (fun hc => absurd (hw111.1 _ hc).1 (Nat.not_le_of_lt n107))).ext E201)
  have n223 : b87 < w202.heap.size := Blk.lt ((((((((hB96.ext E100).ext E129).ext E139).ext E148).kl K158 (fun hc => absurd (Nat.lt_of_lt_of_le (hw86.1 _ hc).2 (Nat.le_trans (Nat.le_refl _) hb88)) (Nat.lt_irrefl _))).ext E184).kl K194 (fun hc => absurd (hw111.1 _ hc).1 (Nat.not_le_of_lt n108))).ext E201)
  obtain ⟨r224, r226, r228, r230, y232, rfl, h225, h227, h229, h231, h233⟩ := hh217.get
  have h233l := Sl.len h233; obtain ⟨p234, q235, rfl⟩ := Sl.shape h233
  have hh236 : Hang w202.heap.size w216 (fun u => Sl RF 1 u (.slice p234 A_g.vals.length q235) A_g.vals) := fun u hu => by obtain ⟨_, _, _, _, _, hq, _, _, _, _, _⟩ := hh217 u hu; cases hq; assumption
  have hw237 : WL 1 w202.heap.size w216 Lw219 (.slice p234 A_g.vals.length q235) A_g.vals.length := hw220
  show wpList _ _ _ _ (fr [_, _, _, _, _, _, _, _, _, _, _, _, _, _, _, _, _, _, _, _, _, _, _, _, _, _, _, _, _, _, _, _, _, _, _, _, _, _, _, _, _, _, _, _, _, _, _, _, _, _, _, _, _, _, _, _, _, _, _, _, _, _, _, _, _, _, _, _, _, _, _, _, _, _, _, _, _, _, _, _, _, _, _, _, _, _, _, _, _, _, _, _, _, _, _, _, _, _, _, _, _, _, _, _, _, _, _, _, _, _, _, _, _, _, _, _, _]) _
  refine seqd rfl rfl (does_call (args := #[(.agg #[(Fl r224), (Fl r226), (Fl r228), (Fl r230), (Iv A_g.x), (Iv A_g.y), (Iv A_g.z), (.slice p234 A_g.vals.length q235)])]) cal17 (evs rfl) (c_impl_PartsInside [(Fl r224), (Fl r226), (Fl r228), (Fl r230), (Iv A_g.x), (Iv A_g.y), (Iv A_g.z), (.slice p234 A_g.vals.length q235)] A_g _ ⟨r224, r226, r228, r230, (.slice p234 A_g.vals.length q235), rfl, h225, h227, h229, h231, hh236.get⟩)) ?_; rintro _ w239 ⟨E238, ⟨y241, Lw242, rfl, hh240, hw243⟩⟩
  have X244 := Ext.gr X221 E238
  have n245 : b15 < w216.heap.size := Blk.lt (((((((((((((((hB17.ext E24).ext E34).ext E56).ext E65).ext E90).wr W95 (Nat.ne_of_lt n92)).ext E100).ext E129).ext E139).ext E148).kl K158 (fun hc => absurd (hw86.1 _ hc).1 (Nat.not_le_of_lt n72))).ext E184).kl K194 (fun hc => absurd (hw111.1 _ hc).1 (Nat.not_le_of_lt n107))).ext E201).ext E215)
  have n246 : b87 < w216.heap.size := Blk.lt (((((((((hB96.ext E100).ext E129).ext E139).ext E148).kl K158 (fun hc => absurd (Nat.lt_of_lt_of_le (hw86.1 _ hc).2 (Nat.le_trans (Nat.le_refl _) hb88)) (Nat.lt_irrefl _))).ext E184).kl K194 (fun hc => absurd (hw111.1 _ hc).1 (Nat.not_le_of_lt n108))).ext E201).ext E215)
  obtain ⟨p247, q248, rfl⟩ := Sl.shape hh240.get
  have hw249 : WL 1 w216.heap.size w239 Lw242 (.slice p247 (((prtG A_g).1).length) q248) ((prtG A_g).1).length := hw243
  show wpList _ _ _ _ (fr [_, _, _, _, _, _, _, _, _, _, _, _, _, _, _, _, _, _, _, _, _, _, _, _, _, _, _, _, _, _, _, _, _, _, _, _, _, _, _, _, _, _, _, _, _, _, _, _, _, _, _, _, _, _, _, _, _, _, _, _, _, _, _, _, _, _, _, _, _, _, _, _, _, _, _, _, _, _, _, _, _, _, _, _, _, _, _, _, _, _, _, _, _, _, _, _, _, _, _, _, _, _, _, _, _, _, _, _, _, _, _, _, _, _, _, _, _]) _
  refine q_is rfl rfl (does_move (u := (.tuple #[(.slice p247 (((prtG A_g).1).length) q248), (Iv ((prtG A_g).2)), (Bo (isGrid A_g))])) (ev rfl)) (by dsimp only [List.set]; try rfl) ?_
  refine q_is rfl rfl (does_extract (vs := #[(.slice p247 (((prtG A_g).1).length) q248), (Iv ((prtG A_g).2)), (Bo (isGrid A_g))]) (u := (.slice p247 (((prtG A_g).1).length) q248)) (ev rfl) rfl) (by dsimp only [List.set]; try rfl) ?_
  refine q_is rfl rfl (does_extract (vs := #[(.slice p247 (((prtG A_g).1).length) q248), (Iv ((prtG A_g).2)), (Bo (isGrid A_g))]) (u := (Iv ((prtG A_g).2))) (ev rfl) rfl) (by dsimp only [List.set]; try rfl) ?_
  refine q_is rfl rfl (does_extract (vs := #[(.slice p247 (((prtG A_g).1).length) q248), (Iv ((prtG A_g).2)), (Bo (isGrid A_g))]) (u := (Bo (isGrid A_g))) (ev rfl) rfl) (by dsimp only [List.set]; try rfl) ?_
  refine q_is rfl rfl (does_assign (u := (.slice p247 (((prtG A_g).1).length) q248)) (ev rfl)) (by dsimp only [List.set]; try rfl) ?_
  refine q_is rfl rfl (does_assign (u := (Iv ((prtG A_g).2))) (ev rfl)) (by dsimp only [List.set]; try rfl) ?_
  refine q_is rfl rfl (does_assign (u := (Bo (isGrid A_g))) (ev rfl)) (by dsimp only [List.set]; try rfl) ?_
  refine wpList_nil (hK214 _ _ ?_)
  refine wp_seq_k fun K250 hK250 => ?_
  refine wp_seq_k fun K251 hK251 => ?_
  obtain ⟨β9, hβ9⟩ : ∃ b : Bool, b = (sameX eqI ((prtG A_g).1) ((prtG A_g).1)) := ⟨_, rfl⟩
  obtain ⟨β10, hβ10⟩ : ∃ b : Bool, b = (icmp .neq ((prtG A_g).2) ((prtG A_g).2)) := ⟨_, rfl⟩
  obtain ⟨β11, hβ11⟩ : ∃ b : Bool, b = ((isGrid A_g) != (isGrid A_g)) := ⟨_, rfl⟩
  refine region_text (
    [Fact.pure [] (fun v => v = (.slice p247 (((prtG A_g).1).length) q248)),
    Fact.pure [] (fun v => v = (.slice p62 (((prtG A_g).1).length) q63)),
    Fact.pure [95, 96] (fun v => v = (Bo β9)),
    Fact.pure [97] (fun v => v = (Bo (!β9))),
    Fact.pure [98] (fun v => v = (Bo (!β9))),
    Fact.pure [99] (fun v => (!β9) = false → v = (Iv ((prtG A_g).2))),
    Fact.pure [99] (fun v => (!β9) = false → v = (Iv ((prtG A_g).2))),
    Fact.pure [100, 101, 99] (fun v => (!β9) = false → v = (Bo β10)),
    Fact.pure [99, 102] (fun v => v = (Bo ((!β9) || β10))),
    Fact.pure [103] (fun v => v = (Bo ((!β9) || β10))),
    Fact.pure [104] (fun v => ((!β9) || β10) = false → v = (Bo (isGrid A_g))),
    Fact.pure [104] (fun v => ((!β9) || β10) = false → v = (Bo (isGrid A_g))),
    Fact.pure [105, 106, 104] (fun v => ((!β9) || β10) = false → v = (Bo β11)),
    Fact.pure [104, 107] (fun v => v = (Bo (((!β9) || β10) || β11)))]) (by simp [Fact.pure, Fact.mem]) ?_
  refine RW_d _ rfl (fun v => by dsimp only [List.set]; try rfl) (fun u hu hF => ?_) (fun v252 => ?_)
  · clear hF
    refine doesG_un rfl ?_
    refine (does_move (u := (.slice p247 (((prtG A_g).1).length) q248)) (ev rfl)).mono ?_; rintro _ _ ⟨rfl, rfl⟩
    exact ⟨rfl, Ext.refl _⟩
  refine RW_d _ rfl (fun v => by dsimp only [List.set]; try rfl) (fun u hu hF => ?_) (fun v253 => ?_)
  · clear hF
    refine doesG_un rfl ?_
    refine (does_move (u := (.slice p62 (((prtG A_g).1).length) q63)) (ev rfl)).mono ?_; rintro _ _ ⟨rfl, rfl⟩
    exact ⟨rfl, Ext.refl _⟩
  refine RW_d _ rfl (fun v => by dsimp only [List.set]; try rfl) (fun u hu hF => ?_) (fun v254 => ?_)
  · have h95_ : v252 = (.slice p247 (((prtG A_g).1).length) q248) := hF.1
    have h96_ : v253 = (.slice p62 (((prtG A_g).1).length) q63) := hF.2.1
    clear hF
    refine doesG_un rfl ?_
    obtain rfl := h95_
    obtain rfl := h96_
    refine (does_call (args := #[(.slice p247 (((prtG A_g).1).length) q248), (.slice p62 (((prtG A_g).1).length) q63)]) cal9 (evs rfl) (c_laws_eqInt64S (.slice p247 (((prtG A_g).1).length) q248) ((prtG A_g).1) (.slice p62 (((prtG A_g).1).length) q63) ((prtG A_g).1) _ (Sl.ext hh240.get RI.mono hu) (Sl.ext (hh58 _ ((((((((((((((Same.refl _ _).ext E65).ext E90).wr W95 (.inr (Nat.le_trans (Below.size E65) hb88))).ext E100).ext E129).ext E139).ext E148).kl K158 (fun c hc => .inr (Nat.le_trans (Nat.le_refl _) (hw86.1 c hc).1))).ext E184).kl K194 (fun c hc => .inr (Nat.le_trans (Nat.le_trans (Nat.le_trans (Below.size E65) (Below.size E90)) (Nat.le_of_eq (Eq.symm (Wr.size W95)))) (hw111.1 c hc).1))).ext E201).ext E215).ext E238)) RI.mono hu))).mono ?_; rintro v u' ⟨hx, hv⟩
    exact ⟨hv.trans (by simp only [hβ9]), hx⟩
  refine RW_d _ rfl (fun v => by dsimp only [List.set]; try rfl) (fun u hu hF => ?_) (fun v255 => ?_)
  · have h97_ : v254 = (Bo β9) := hF.1
    clear hF
    refine doesG_un rfl ?_
    obtain rfl := h97_
    refine (does_not (ev rfl)).mono ?_; rintro _ _ ⟨rfl, rfl⟩
    exact ⟨rfl, Ext.refl _⟩
  refine RW_d _ rfl (fun v => by dsimp only [List.set]; try rfl) (fun u hu hF => ?_) (fun v256 => ?_)
  · have h98_ : v255 = (Bo (!β9)) := hF.1
    clear hF
    refine doesG_un rfl ?_
    obtain rfl := h98_
    refine (does_move (u := (Bo (!β9))) (ev rfl)).mono ?_; rintro _ _ ⟨rfl, rfl⟩
    exact ⟨rfl, Ext.refl _⟩
  refine RW_d _ rfl (fun v => by dsimp only [List.set]; try rfl) (fun u hu hF => ?_) (fun v257 => ?_)
  · have h99_ : v256 = (Bo (!β9)) := hF.1
    clear hF
    obtain rfl := h99_
    refine doesG_g (b := (!β9)) rfl (yld rfl rfl) (fun hg1 => ?_) (fun hc => ⟨fun hg1 => absurd hg1 hc, Ext.refl _⟩)
    refine (does_move (u := (Iv ((prtG A_g).2))) (ev rfl)).mono ?_; rintro _ _ ⟨rfl, rfl⟩
    exact ⟨fun _ => rfl, Ext.refl _⟩
  refine RW_d _ rfl (fun v => by dsimp only [List.set]; try rfl) (fun u hu hF => ?_) (fun v258 => ?_)
  · have h99_ : v256 = (Bo (!β9)) := hF.1
    clear hF
    obtain rfl := h99_
    refine doesG_g (b := (!β9)) rfl (yld rfl rfl) (fun hg1 => ?_) (fun hc => ⟨fun hg1 => absurd hg1 hc, Ext.refl _⟩)
    refine (does_move (u := (Iv ((prtG A_g).2))) (ev rfl)).mono ?_; rintro _ _ ⟨rfl, rfl⟩
    exact ⟨fun _ => rfl, Ext.refl _⟩
  refine RW_d _ rfl (fun v => by dsimp only [List.set]; try rfl) (fun u hu hF => ?_) (fun v259 => ?_)
  · have h100_ : (!β9) = false → v257 = (Iv ((prtG A_g).2)) := hF.1
    have h101_ : (!β9) = false → v258 = (Iv ((prtG A_g).2)) := hF.2.1
    have h99_ : v256 = (Bo (!β9)) := hF.2.2.1
    clear hF
    obtain rfl := h99_
    refine doesG_g (b := (!β9)) rfl (yld rfl rfl) (fun hg1 => ?_) (fun hc => ⟨fun hg1 => absurd hg1 hc, Ext.refl _⟩)
    obtain rfl := h100_ hg1
    obtain rfl := h101_ hg1
    refine (does_icmp (p := (prtG A_g).2) (q := (prtG A_g).2) (.inr (.inl rfl)) (ev rfl) (ev rfl)).mono ?_; rintro _ _ ⟨rfl, rfl⟩
    exact ⟨fun _ => (by first | rfl | (show _ = _; simp only [hβ10]; done) | (show _ = _; simp only [hβ10]; rfl)), Ext.refl _⟩
  refine RW_d _ rfl (fun v => by dsimp only [List.set]; try rfl) (fun u hu hF => ?_) (fun v260 => ?_)
  · have h99_ : v256 = (Bo (!β9)) := hF.1
    have h102_ : (!β9) = false → v259 = (Bo β10) := hF.2.1
    clear hF
    refine doesG_un rfl ?_
    skip
    obtain rfl := h99_
    refine (does_pick (b := (!β9)) (u := (Bo true)) (v := v259) (ev rfl) (ev rfl) (ev rfl)).mono ?_; rintro _ _ ⟨rfl, rfl⟩; refine ⟨?_, Ext.refl _⟩; skip
    cases hbb : (!β9)
    all_goals first | (show _ = _; simp only [↓reduceIte, Bool.true_and, Bool.false_and, Bool.true_or, Bool.false_or, Bool.false_eq_true]; done) | (have e_ := h102_ hbb; subst e_; show _ = _; simp only [↓reduceIte, Bool.true_and, Bool.false_and, Bool.true_or, Bool.false_or, Bool.false_eq_true]; done) | rfl | (have e_ := h102_ hbb; subst e_; rfl) | (simp [hbb] at h102_ ⊢; first | done | rfl | (subst h102_; rfl) | simp_all) | (simp [hbb] at h102_ ⊢; done)
  refine RW_d _ rfl (fun v => by dsimp only [List.set]; try rfl) (fun u hu hF => ?_) (fun v261 => ?_)
  · have h103_ : v260 = (Bo ((!β9) || β10)) := hF.1
    clear hF
    refine doesG_un rfl ?_
    obtain rfl := h103_
    refine (does_move (u := (Bo ((!β9) || β10))) (ev rfl)).mono ?_; rintro _ _ ⟨rfl, rfl⟩
    exact ⟨rfl, Ext.refl _⟩
  refine RW_d _ rfl (fun v => by dsimp only [List.set]; try rfl) (fun u hu hF => ?_) (fun v262 => ?_)
  · have h104_ : v261 = (Bo ((!β9) || β10)) := hF.1
    clear hF
    obtain rfl := h104_
    refine doesG_g (b := ((!β9) || β10)) rfl (yld rfl rfl) (fun hg1 => ?_) (fun hc => ⟨fun hg1 => absurd hg1 hc, Ext.refl _⟩)
    refine (does_move (u := (Bo (isGrid A_g))) (ev rfl)).mono ?_; rintro _ _ ⟨rfl, rfl⟩
    exact ⟨fun _ => rfl, Ext.refl _⟩
  refine RW_d _ rfl (fun v => by dsimp only [List.set]; try rfl) (fun u hu hF => ?_) (fun v263 => ?_)
  · have h104_ : v261 = (Bo ((!β9) || β10)) := hF.1
    clear hF
    obtain rfl := h104_
    refine doesG_g (b := ((!β9) || β10)) rfl (yld rfl rfl) (fun hg1 => ?_) (fun hc => ⟨fun hg1 => absurd hg1 hc, Ext.refl _⟩)
    refine (does_move (u := (Bo (isGrid A_g))) (ev rfl)).mono ?_; rintro _ _ ⟨rfl, rfl⟩
    exact ⟨fun _ => rfl, Ext.refl _⟩
  refine RW_d _ rfl (fun v => by dsimp only [List.set]; try rfl) (fun u hu hF => ?_) (fun v264 => ?_)
  · have h105_ : ((!β9) || β10) = false → v262 = (Bo (isGrid A_g)) := hF.1
    have h106_ : ((!β9) || β10) = false → v263 = (Bo (isGrid A_g)) := hF.2.1
    have h104_ : v261 = (Bo ((!β9) || β10)) := hF.2.2.1
    clear hF
    obtain rfl := h104_
    refine doesG_g (b := ((!β9) || β10)) rfl (yld rfl rfl) (fun hg1 => ?_) (fun hc => ⟨fun hg1 => absurd hg1 hc, Ext.refl _⟩)
    obtain rfl := h105_ hg1
    obtain rfl := h106_ hg1
    refine (does_bne (p := (isGrid A_g)) (q := (isGrid A_g)) Try.underlying4 (ev rfl) (ev rfl)).mono ?_; rintro _ _ ⟨rfl, rfl⟩
    exact ⟨fun _ => (by first | rfl | (show _ = _; simp only [hβ11]; done) | (show _ = _; simp only [hβ11]; rfl)), Ext.refl _⟩
  refine RW_d _ rfl (fun v => by dsimp only [List.set]; try rfl) (fun u hu hF => ?_) (fun v265 => ?_)
  · have h104_ : v261 = (Bo ((!β9) || β10)) := hF.1
    have h107_ : ((!β9) || β10) = false → v264 = (Bo β11) := hF.2.1
    clear hF
    refine doesG_un rfl ?_
    skip
    obtain rfl := h104_
    refine (does_pick (b := ((!β9) || β10)) (u := (Bo true)) (v := v264) (ev rfl) (ev rfl) (ev rfl)).mono ?_; rintro _ _ ⟨rfl, rfl⟩; refine ⟨?_, Ext.refl _⟩; skip
    cases hbb : ((!β9) || β10)
    all_goals first | (show _ = _; simp only [↓reduceIte, Bool.true_and, Bool.false_and, Bool.true_or, Bool.false_or, Bool.false_eq_true]; done) | (have e_ := h107_ hbb; subst e_; show _ = _; simp only [↓reduceIte, Bool.true_and, Bool.false_and, Bool.true_or, Bool.false_or, Bool.false_eq_true]; done) | rfl | (have e_ := h107_ hbb; subst e_; rfl) | (simp [hbb] at h107_ ⊢; first | done | rfl | (subst h107_; rfl) | simp_all) | (simp [hbb] at h107_ ⊢; done)
  refine RW_fin ?_; intro w266 E267 hP268
  obtain ⟨⟨⟨⟨⟨⟨⟨⟨⟨⟨⟨⟨⟨⟨-, -⟩, -⟩, -⟩, -⟩, -⟩, -⟩, -⟩, -⟩, -⟩, -⟩, -⟩, -⟩, -⟩, q269⟩ := hP268
  have X270 := Ext.gr X244 E267
  have q269 : v265 = (Bo (((!β9) || β10) || β11)) := q269
  obtain rfl := q269
  show wpList _ _ _ _ (fr [_, _, _, _, _, _, _, _, _, _, _, _, _, _, _, _, _, _, _, _, _, _, _, _, _, _, _, _, _, _, _, _, _, _, _, _, _, _, _, _, _, _, _, _, _, _, _, _, _, _, _, _, _, _, _, _, _, _, _, _, _, _, _, _, _, _, _, _, _, _, _, _, _, _, _, _, _, _, _, _, _, _, _, _, _, _, _, _, _, _, _, _, _, _, _, _, _, _, _, _, _, _, _, _, _, _, _, _, _, _, _, _, _, _, _, _, _]) _
  refine wpList_nil (hK251 _ _ ?_)
  refine wp_cond_split (t := ((!β9) || β10) || β11) (ev rfl) (fun c271 => ?_) (fun c271 => ?_)
  · have c271' := c271
    (try simp only [hβ1, hβ2, hβ3, hβ4, hβ5, hβ6, hβ7, hβ8, hβ9, hβ10, hβ11, sameG_self, sameX_selfI, bne_self_eq_false] at c271')
    (try simp only [hβ1, hβ2, hβ3, hβ4, hβ5, hβ6, hβ7, hβ8, hβ9, hβ10, hβ11] at c271')
    (try simp only [icmp, Bool.and_eq_true, Bool.or_eq_true, Bool.and_eq_false_iff, Bool.or_eq_false_iff, Bool.not_eq_true', Bool.not_eq_false', decide_eq_true_eq, decide_eq_false_iff_not, beq_iff_eq, bne_iff_ne, beq_eq_false_iff_ne, bne_eq_false_iff_eq] at c271')
    refine wp_seq_k fun K272 hK272 => ?_
    refine wp_region_lit ?_
    refine q_is rfl rfl (does_assign (u := (Bo false)) (ev rfl)) (by dsimp only [List.set]; try rfl) ?_
    refine wpList_nil (hK272 _ _ ?_)
    refine wp_ret ?_
    dsimp only [Exit.then, Exit.inBlock]
    refine ret_val (v := (Bo false)) (res_T rfl (slot rfl)) X270 ?_
    try simp only [h2, h4, h6, h8, h43, h45, h47, h49, h74, h76, h78, h80, hβ1, hβ2, hβ3, hβ4, hβ5, hβ6, hβ7, hβ8, h225, h227, h229, h231, hβ9, hβ10, hβ11, sameG_self, sameX_selfI, bne_self_eq_false] at c31 c133 c152 c188 c206 c211 c271
    have x273 : true = false := by first | with_reducible rfl | (exfalso; omega) | (exfalso; simp only [mkL_len] at * <;> omega) | (exfalso; rcases c271' with ((hh | hh) | hh) | hh <;> first | omega | (exact Bool.noConfusion hh) | (exact absurd rfl hh)) | (exfalso; rcases c271' with (hh | hh) | hh <;> first | omega | (exact Bool.noConfusion hh)) | (exfalso; rcases c271' with hh | hh <;> first | omega | (exact Bool.noConfusion hh)) | (simp only [sameG_self, sameX_selfI, bne_self_eq_false, icmp, h2, h4, h6, h8, h43, h45, h47, h49, h74, h76, h78, h80, hβ1, hβ2, hβ3, hβ4, hβ5, hβ6, hβ7, hβ8, h225, h227, h229, h231, hβ9, hβ10, hβ11, c31, c133, c152, c188, c206, c211, c271]; done) | (simp [sameG_self, sameX_selfI, bne_self_eq_false, icmp, h2, h4, h6, h8, h43, h45, h47, h49, h74, h76, h78, h80, hβ1, hβ2, hβ3, hβ4, hβ5, hβ6, hβ7, hβ8, h225, h227, h229, h231, hβ9, hβ10, hβ11, c31, c133, c152, c188, c206, c211, c271]; done) | (simp_all; done) | (exfalso; simp_all; done)
    exact (by first | with_reducible rfl | rw [x273] | rfl)
  have c271' := c271
  (try simp only [hβ1, hβ2, hβ3, hβ4, hβ5, hβ6, hβ7, hβ8, hβ9, hβ10, hβ11, sameG_self, sameX_selfI, bne_self_eq_false] at c271')
  (try simp only [hβ1, hβ2, hβ3, hβ4, hβ5, hβ6, hβ7, hβ8, hβ9, hβ10, hβ11] at c271')
  (try simp only [icmp, Bool.and_eq_true, Bool.or_eq_true, Bool.and_eq_false_iff, Bool.or_eq_false_iff, Bool.not_eq_true', Bool.not_eq_false', decide_eq_true_eq, decide_eq_false_iff_not, beq_iff_eq, bne_iff_ne, beq_eq_false_iff_ne, bne_eq_false_iff_eq] at c271')
  refine wp_skip (hK250 _ _ ?_)
  refine wp_seq_k fun K274 hK274 => ?_
  refine wp_region_lit ?_
  refine q_is rfl rfl (does_assign (u := (Iv 1)) (ev rfl)) (by dsimp only [List.set]; try rfl) ?_
  refine wpList_nil (hK274 _ _ ?_)
  refine wp_seq_k fun K275 hK275 => ?_
  refine wp_region_lit ?_
  refine q_is rfl rfl (does_move (u := (.slice p109 (((prtG A_g).1).length) q110)) (ev rfl)) (by dsimp only [List.set]; try rfl) ?_
  refine q_is rfl rfl (does_move (u := (Iv 1)) (ev rfl)) (by dsimp only [List.set]; try rfl) ?_
  refine seqd rfl rfl (does_call (args := #[(.slice p109 (((prtG A_g).1).length) q110), (Iv 1)]) cal13 (evs rfl) (c_laws_heldInt64S (.slice p109 (((prtG A_g).1).length) q110) (mkL fI 1 1 ((prtG A_g).1).length) 1 _ (hM195 _ (((((Same.refl _ _).ext E201).ext E215).ext E238).ext E267)) (by exact mkL_eq) (by omega) (by (try dsimp only); rw [mkL_len]; omega))) ?_; rintro _ w277 ⟨E276, rfl⟩
  have X278 := Ext.gr X270 E276
  show wpList _ _ _ _ (fr [_, _, _, _, _, _, _, _, _, _, _, _, _, _, _, _, _, _, _, _, _, _, _, _, _, _, _, _, _, _, _, _, _, _, _, _, _, _, _, _, _, _, _, _, _, _, _, _, _, _, _, _, _, _, _, _, _, _, _, _, _, _, _, _, _, _, _, _, _, _, _, _, _, _, _, _, _, _, _, _, _, _, _, _, _, _, _, _, _, _, _, _, _, _, _, _, _, _, _, _, _, _, _, _, _, _, _, _, _, _, _, _, _, _, _, _, _]) _
  refine q_is rfl rfl (does_assign (u := (Iv (1 + ((mkL fI 1 1 ((prtG A_g).1).length).length : Int) * 1))) (ev rfl)) (by dsimp only [List.set]; try rfl) ?_
  refine wpList_nil (hK275 _ _ ?_)
  refine wp_seq_k fun K279 hK279 => ?_
  refine wp_seq_k fun K280 hK280 => ?_
  refine wp_region_lit ?_
  refine q_is rfl rfl (does_move (u := (Iv (1 + ((mkL fI 1 1 ((prtG A_g).1).length).length : Int) * 1))) (ev rfl)) (by dsimp only [List.set]; try rfl) ?_
  refine q_is rfl rfl (does_icmp (p := 1 + ((mkL fI 1 1 ((prtG A_g).1).length).length : Int) * 1) (q := 0) (.inr (.inr (.inl rfl))) (ev rfl) (ev rfl)) (by dsimp only [List.set]; try rfl) ?_
  refine wpList_nil (hK280 _ _ ?_)
  refine wp_cond_false ((ev (rfl : evl _ _ = .bool (icmp .lss (1 + ((mkL fI 1 1 ((prtG A_g).1).length).length : Int) * 1) 0))).trans (congrArg Value.bool c206)) ?_
  refine wp_skip (hK279 _ _ ?_)
  refine wp_seq_k fun K281 hK281 => ?_
  refine wp_seq_k fun K282 hK282 => ?_
  refine wp_region_lit ?_
  refine q_is rfl rfl (does_move (u := (Iv (1 + ((mkL fI 1 1 ((prtG A_g).1).length).length : Int) * 1))) (ev rfl)) (by dsimp only [List.set]; try rfl) ?_
  refine q_is rfl rfl (does_move (u := (Iv (1 + (((prtG A_g).1).length : Int) * 1))) (ev rfl)) (by dsimp only [List.set]; try rfl) ?_
  refine q_is rfl rfl (does_icmp (p := 1 + ((mkL fI 1 1 ((prtG A_g).1).length).length : Int) * 1) (q := 1 + (((prtG A_g).1).length : Int) * 1) (.inr (.inl rfl)) (ev rfl) (ev rfl)) (by dsimp only [List.set]; try rfl) ?_
  refine wpList_nil (hK282 _ _ ?_)
  refine wp_cond_false ((ev (rfl : evl _ _ = .bool (icmp .neq (1 + ((mkL fI 1 1 ((prtG A_g).1).length).length : Int) * 1) (1 + (((prtG A_g).1).length : Int) * 1)))).trans (congrArg Value.bool c211)) ?_
  refine wp_skip (hK281 _ _ ?_)
  refine wp_seq_k fun K283 hK283 => ?_
  refine wp_region_lit ?_
  refine q_is rfl rfl (does_assign (u := (Bo true)) (ev rfl)) (by dsimp only [List.set]; try rfl) ?_
  refine wpList_nil (hK283 _ _ ?_)
  refine wp_ret ?_
  refine ret_val (v := (Bo true)) (res_T rfl (slot rfl)) X278 ?_
  try simp only [h2, h4, h6, h8, h43, h45, h47, h49, h74, h76, h78, h80, hβ1, hβ2, hβ3, hβ4, hβ5, hβ6, hβ7, hβ8, h225, h227, h229, h231, hβ9, hβ10, hβ11, sameG_self, sameX_selfI, bne_self_eq_false] at c31 c133 c152 c188 c206 c211 c271
  exact rfl

end Go.Proofs.Ytlfpeihlfmdmdaa
