/- contracts of functions, each walked once -/
import Derived.Test.YtffmjlalacnfiaaH2
namespace Go.Proofs.Ytffmjlalacnfiaa
open Go Go.RowKit
set_option maxRecDepth 100000
set_option maxHeartbeats 3200000
set_option linter.unusedVariables false
set_option linter.unusedSimpArgs false

/- laws.eqGrid -/
theorem c_laws_eqGrid (a : List Value) (A_a : GridT) (b : List Value) (A_b : GridT) (w : World) (hv_a : RGridT w A_a a) (hv_b : RGridT w A_b b) : Gives Try.prog 11 #[(.agg a.toArray), (.agg b.toArray)] w (fun v w' => v = (Bo (sameG A_a A_b))) := by
  obtain ⟨r1, r3, r5, r7, y9, rfl, h2, h4, h6, h8, h10⟩ := hv_a
  obtain ⟨r11, r13, r15, r17, y19, rfl, h12, h14, h16, h18, h20⟩ := hv_b
  have hs23 := h10; have hs23l := Sl.len h10; obtain ⟨p21, q22, rfl⟩ := Sl.shape h10
  have hs26 := h20; have hs26l := Sl.len h20; obtain ⟨p24, q25, rfl⟩ := Sl.shape h20
  refine enter [(.agg #[(Fl r1), (Fl r3), (Fl r5), (Fl r7), (Iv A_a.x), (Iv A_a.y), (Iv A_a.z), (.slice p21 A_a.vals.length q22)]), (.agg #[(Fl r11), (Fl r13), (Fl r15), (Fl r17), (Iv A_b.x), (Iv A_b.y), (Iv A_b.z), (.slice p24 A_b.vals.length q25)]), Ud, Ud, Ud, Ud, Ud, Ud, Ud, Ud, Ud, Ud, Ud, Ud, Ud, Ud, Ud, Ud, Ud, Ud, Ud, Ud, Ud, Ud, Ud, Ud, Ud, Ud, Ud, Ud, Ud, Ud, Ud, Ud, Ud, Ud, Ud, Ud, Ud, Ud] Try.func11 rfl Try.ntmps11 rfl ?_
  refine wp_seq_k fun K27 hK27 => ?_
  refine wp_region_lit ?_
  refine seqd rfl rfl (does_box (u := (.agg #[(Fl r1), (Fl r3), (Fl r5), (Fl r7), (Iv A_a.x), (Iv A_a.y), (Iv A_a.z), (.slice p21 A_a.vals.length q22)])) (ev rfl)) ?_; rintro _ w32 ⟨b28, rfl, hb29, hB30, E31⟩
  have g33 : w.heap.size ≤ b28 := Nat.le_trans (Below.size (Ext.refl w)) hb29
  change Blk _ _ [(Fl r1), (Fl r3), (Fl r5), (Fl r7), (Iv A_a.x), (Iv A_a.y), (Iv A_a.z), (.slice p21 A_a.vals.length q22)] at hB30
  have X34 := Ext.gr (Ext.refl w) E31
  show wpList _ _ _ _ (fr [(.agg #[(Fl r1), (Fl r3), (Fl r5), (Fl r7), (Iv A_a.x), (Iv A_a.y), (Iv A_a.z), (.slice p21 A_a.vals.length q22)]), (.agg #[(Fl r11), (Fl r13), (Fl r15), (Fl r17), (Iv A_b.x), (Iv A_b.y), (Iv A_b.z), (.slice p24 A_b.vals.length q25)]), (Pt b28 0), Ud, Ud, Ud, Ud, Ud, Ud, Ud, Ud, Ud, Ud, Ud, Ud, Ud, Ud, Ud, Ud, Ud, Ud, Ud, Ud, Ud, Ud, Ud, Ud, Ud, Ud, Ud, Ud, Ud, Ud, Ud, Ud, Ud, Ud, Ud, Ud, Ud]) _
  refine seqd rfl rfl (does_box (u := (.agg #[(Fl r11), (Fl r13), (Fl r15), (Fl r17), (Iv A_b.x), (Iv A_b.y), (Iv A_b.z), (.slice p24 A_b.vals.length q25)])) (ev rfl)) ?_; rintro _ w39 ⟨b35, rfl, hb36, hB37, E38⟩
  have n40 : b28 < b35 := Nat.lt_of_lt_of_le (Blk.lt hB30) hb36
  have g41 : w.heap.size ≤ b35 := Nat.le_trans (Below.size X34) hb36
  change Blk _ _ [(Fl r11), (Fl r13), (Fl r15), (Fl r17), (Iv A_b.x), (Iv A_b.y), (Iv A_b.z), (.slice p24 A_b.vals.length q25)] at hB37
  have X42 := Ext.gr X34 E38
  show wpList _ _ _ _ (fr [(.agg #[(Fl r1), (Fl r3), (Fl r5), (Fl r7), (Iv A_a.x), (Iv A_a.y), (Iv A_a.z), (.slice p21 A_a.vals.length q22)]), (.agg #[(Fl r11), (Fl r13), (Fl r15), (Fl r17), (Iv A_b.x), (Iv A_b.y), (Iv A_b.z), (.slice p24 A_b.vals.length q25)]), (Pt b28 0), (Pt b35 0), Ud, Ud, Ud, Ud, Ud, Ud, Ud, Ud, Ud, Ud, Ud, Ud, Ud, Ud, Ud, Ud, Ud, Ud, Ud, Ud, Ud, Ud, Ud, Ud, Ud, Ud, Ud, Ud, Ud, Ud, Ud, Ud, Ud, Ud, Ud, Ud]) _
  refine q_is rfl rfl (does_assign (u := (Bo false)) (ev rfl)) (by dsimp only [List.set]; try rfl) ?_
  refine wpList_nil (hK27 _ _ ?_)
  refine wp_seq_k fun K43 hK43 => ?_
  refine wp_seq_k fun K44 hK44 => ?_
  refine wp_region_lit ?_
  refine q_is rfl rfl (does_fieldAddr (ev rfl) fa31_0) (by dsimp only [List.set]; try rfl) ?_
  refine q_is rfl rfl (does_loadAgg (cs := [(Fl r1), (Fl r3), (Fl r5)]) (ev rfl) Try.isAgg29 Try.sizeOf29 (Cells.sub (Blk.cells (hB30.ext E38)) 0 3) rfl) (by dsimp only [List.set]; try rfl) ?_
  refine q_is rfl rfl (does_fieldAddr (ev rfl) fa31_0) (by dsimp only [List.set]; try rfl) ?_
  refine q_is rfl rfl (does_loadAgg (cs := [(Fl r11), (Fl r13), (Fl r15)]) (ev rfl) Try.isAgg29 Try.sizeOf29 (Cells.sub (Blk.cells hB37) 0 3) rfl) (by dsimp only [List.set]; try rfl) ?_
  refine seqd rfl rfl (does_call (args := #[(.agg #[(Fl r1), (Fl r3), (Fl r5)]), (.agg #[(Fl r11), (Fl r13), (Fl r15)])]) cal31 (evs rfl) (c_laws_eqVector [(Fl r1), (Fl r3), (Fl r5)] A_a.low [(Fl r11), (Fl r13), (Fl r15)] A_b.low _ ⟨r1, r3, r5, rfl, h2, h4, h6⟩ ⟨r11, r13, r15, rfl, h12, h14, h16⟩)) ?_; rintro _ w46 ⟨E45, rfl⟩
  have X47 := Ext.gr X42 E45
  show wpList _ _ _ _ (fr [(.agg #[(Fl r1), (Fl r3), (Fl r5), (Fl r7), (Iv A_a.x), (Iv A_a.y), (Iv A_a.z), (.slice p21 A_a.vals.length q22)]), (.agg #[(Fl r11), (Fl r13), (Fl r15), (Fl r17), (Iv A_b.x), (Iv A_b.y), (Iv A_b.z), (.slice p24 A_b.vals.length q25)]), (Pt b28 0), (Pt b35 0), (Bo false), (Pt b28 0), (.agg #[(Fl r1), (Fl r3), (Fl r5)]), (Pt b35 0), (.agg #[(Fl r11), (Fl r13), (Fl r15)]), (Bo (sameV A_a.low A_b.low)), Ud, Ud, Ud, Ud, Ud, Ud, Ud, Ud, Ud, Ud, Ud, Ud, Ud, Ud, Ud, Ud, Ud, Ud, Ud, Ud, Ud, Ud, Ud, Ud, Ud, Ud, Ud, Ud, Ud, Ud]) _
  refine q_is rfl rfl (does_not (ev rfl)) (by dsimp only [List.set]; try rfl) ?_
  refine wpList_nil (hK44 _ _ ?_)
  refine wp_cond_split (t := !(sameV A_a.low A_b.low)) (ev rfl) (fun c48 => ?_) (fun c48 => ?_)
  · rw [Bool.not_eq_true'] at c48
    have c48' := c48
    refine wp_seq_k fun K49 hK49 => ?_
    refine wp_region_lit ?_
    refine q_is rfl rfl (does_assign (u := (Bo false)) (ev rfl)) (by dsimp only [List.set]; try rfl) ?_
    refine wpList_nil (hK49 _ _ ?_)
    refine wp_ret ?_
    dsimp only [Exit.then, Exit.inBlock]
    refine ret_val (v := (Bo false)) (res_T rfl (slot rfl)) X47 ?_
    try simp only [h2, h4, h6, h8, h12, h14, h16, h18] at c48
    have x50 : (sameG A_a A_b) = false := by first | with_reducible rfl | (simp only [sameG, icmp, h2, h4, h6, h8, h12, h14, h16, h18, c48]; done) | (simp [sameG, icmp, h2, h4, h6, h8, h12, h14, h16, h18, c48]; done) | (revert c48; simp +contextual [sameG, icmp, h2, h4, h6, h8, h12, h14, h16, h18]; done) | (rcases c48' with hh | hh <;> simp only [hh, sameG, icmp, h2, h4, h6, h8, h12, h14, h16, h18, c48]; done) | (rcases c48' with hh | hh <;> simp_all [sameG, icmp]; done) | (rcases c48' with hh | hh | hh <;> simp_all [sameG, icmp]; done) | (rcases c48' with hh | hh | hh | hh <;> simp_all [sameG, icmp]; done) | (simp_all [sameG, icmp]; done) | rfl
    exact (by first | rfl | rw [x50])
  rw [Bool.not_eq_false'] at c48
  have c48' := c48
  refine wp_skip (hK43 _ _ ?_)
  refine wp_seq_k fun K51 hK51 => ?_
  refine wp_seq_k fun K52 hK52 => ?_
  refine wp_region_lit ?_
  refine q_is rfl rfl (does_fieldAddr (ev rfl) fa31_1) (by dsimp only [List.set]; try rfl) ?_
  refine q_is rfl rfl (does_load (u := (Fl r7)) (ev rfl) Try.isAgg22 (Cells.at (Blk.cells ((hB30.ext E38).ext E45)) 3 rfl)) (by dsimp only [List.set]; try rfl) ?_
  refine seqd rfl rfl (does_widen Try.underlying22 Try.underlying60 (ev rfl)) ?_; rintro _ w56 ⟨r53, rfl, h54, E55⟩
  have X57 := Ext.gr X47 E55
  show wpList _ _ _ _ (fr [(.agg #[(Fl r1), (Fl r3), (Fl r5), (Fl r7), (Iv A_a.x), (Iv A_a.y), (Iv A_a.z), (.slice p21 A_a.vals.length q22)]), (.agg #[(Fl r11), (Fl r13), (Fl r15), (Fl r17), (Iv A_b.x), (Iv A_b.y), (Iv A_b.z), (.slice p24 A_b.vals.length q25)]), (Pt b28 0), (Pt b35 0), (Bo false), (Pt b28 0), (.agg #[(Fl r1), (Fl r3), (Fl r5)]), (Pt b35 0), (.agg #[(Fl r11), (Fl r13), (Fl r15)]), (Bo (sameV A_a.low A_b.low)), (Bo (!(sameV A_a.low A_b.low))), (Pt b28 3), (Fl r7), (Fd r53), Ud, Ud, Ud, Ud, Ud, Ud, Ud, Ud, Ud, Ud, Ud, Ud, Ud, Ud, Ud, Ud, Ud, Ud, Ud, Ud, Ud, Ud, Ud, Ud, Ud, Ud]) _
  refine q_is rfl rfl (does_fieldAddr (ev rfl) fa31_1) (by dsimp only [List.set]; try rfl) ?_
  refine q_is rfl rfl (does_load (u := (Fl r17)) (ev rfl) Try.isAgg22 (Cells.at (Blk.cells ((hB37.ext E45).ext E55)) 3 rfl)) (by dsimp only [List.set]; try rfl) ?_
  refine seqd rfl rfl (does_widen Try.underlying22 Try.underlying60 (ev rfl)) ?_; rintro _ w61 ⟨r58, rfl, h59, E60⟩
  have X62 := Ext.gr X57 E60
  show wpList _ _ _ _ (fr [(.agg #[(Fl r1), (Fl r3), (Fl r5), (Fl r7), (Iv A_a.x), (Iv A_a.y), (Iv A_a.z), (.slice p21 A_a.vals.length q22)]), (.agg #[(Fl r11), (Fl r13), (Fl r15), (Fl r17), (Iv A_b.x), (Iv A_b.y), (Iv A_b.z), (.slice p24 A_b.vals.length q25)]), (Pt b28 0), (Pt b35 0), (Bo false), (Pt b28 0), (.agg #[(Fl r1), (Fl r3), (Fl r5)]), (Pt b35 0), (.agg #[(Fl r11), (Fl r13), (Fl r15)]), (Bo (sameV A_a.low A_b.low)), (Bo (!(sameV A_a.low A_b.low))), (Pt b28 3), (Fl r7), (Fd r53), (Pt b35 3), (Fl r17), (Fd r58), Ud, Ud, Ud, Ud, Ud, Ud, Ud, Ud, Ud, Ud, Ud, Ud, Ud, Ud, Ud, Ud, Ud, Ud, Ud, Ud, Ud, Ud, Ud]) _
  refine seqd rfl rfl (does_call (args := #[(Fd r53), (Fd r58)]) cal32 (evs rfl) (c_laws_sameFloat r53 r58 _)) ?_; rintro _ w64 ⟨E63, rfl⟩
  have X65 := Ext.gr X62 E63
  show wpList _ _ _ _ (fr [(.agg #[(Fl r1), (Fl r3), (Fl r5), (Fl r7), (Iv A_a.x), (Iv A_a.y), (Iv A_a.z), (.slice p21 A_a.vals.length q22)]), (.agg #[(Fl r11), (Fl r13), (Fl r15), (Fl r17), (Iv A_b.x), (Iv A_b.y), (Iv A_b.z), (.slice p24 A_b.vals.length q25)]), (Pt b28 0), (Pt b35 0), (Bo false), (Pt b28 0), (.agg #[(Fl r1), (Fl r3), (Fl r5)]), (Pt b35 0), (.agg #[(Fl r11), (Fl r13), (Fl r15)]), (Bo (sameV A_a.low A_b.low)), (Bo (!(sameV A_a.low A_b.low))), (Pt b28 3), (Fl r7), (Fd r53), (Pt b35 3), (Fl r17), (Fd r58), (Bo (sameF (cf .f64 r53) (cf .f64 r58))), Ud, Ud, Ud, Ud, Ud, Ud, Ud, Ud, Ud, Ud, Ud, Ud, Ud, Ud, Ud, Ud, Ud, Ud, Ud, Ud, Ud, Ud]) _
  refine q_is rfl rfl (does_not (ev rfl)) (by dsimp only [List.set]; try rfl) ?_
  refine wpList_nil (hK52 _ _ ?_)
  refine wp_cond_split (t := !(sameF (cf .f64 r53) (cf .f64 r58))) (ev rfl) (fun c66 => ?_) (fun c66 => ?_)
  · rw [Bool.not_eq_true'] at c66
    have c66' := c66
    refine wp_seq_k fun K67 hK67 => ?_
    refine wp_region_lit ?_
    refine q_is rfl rfl (does_assign (u := (Bo false)) (ev rfl)) (by dsimp only [List.set]; try rfl) ?_
    refine wpList_nil (hK67 _ _ ?_)
    refine wp_ret ?_
    dsimp only [Exit.then, Exit.inBlock]
    refine ret_val (v := (Bo false)) (res_T rfl (slot rfl)) X65 ?_
    try simp only [h2, h4, h6, h8, h12, h14, h16, h18, h54, h59] at c48 c66
    have x68 : (sameG A_a A_b) = false := by first | with_reducible rfl | (simp only [sameG, icmp, h2, h4, h6, h8, h12, h14, h16, h18, h54, h59, c48, c66]; done) | (simp [sameG, icmp, h2, h4, h6, h8, h12, h14, h16, h18, h54, h59, c48, c66]; done) | (revert c48 c66; simp +contextual [sameG, icmp, h2, h4, h6, h8, h12, h14, h16, h18, h54, h59]; done) | (rcases c48' with hh | hh <;> simp only [hh, sameG, icmp, h2, h4, h6, h8, h12, h14, h16, h18, h54, h59, c48, c66]; done) | (rcases c66' with hh | hh <;> simp only [hh, sameG, icmp, h2, h4, h6, h8, h12, h14, h16, h18, h54, h59, c48, c66]; done) | (rcases c66' with hh | hh <;> simp_all [sameG, icmp]; done) | (rcases c66' with hh | hh | hh <;> simp_all [sameG, icmp]; done) | (rcases c66' with hh | hh | hh | hh <;> simp_all [sameG, icmp]; done) | (simp_all [sameG, icmp]; done) | rfl
    exact (by first | rfl | rw [x68])
  rw [Bool.not_eq_false'] at c66
  have c66' := c66
  refine wp_skip (hK51 _ _ ?_)
  refine wp_seq_k fun K69 hK69 => ?_
  refine wp_seq_k fun K70 hK70 => ?_
  refine wp_region_lit ?_
  refine q_is rfl rfl (does_fieldAddr (ev rfl) fa31_2) (by dsimp only [List.set]; try rfl) ?_
  refine q_is rfl rfl (does_load (u := (Iv A_a.x)) (ev rfl) Try.isAgg2 (Cells.at (Blk.cells (((((hB30.ext E38).ext E45).ext E55).ext E60).ext E63)) 4 rfl)) (by dsimp only [List.set]; try rfl) ?_
  refine q_is rfl rfl (does_fieldAddr (ev rfl) fa31_2) (by dsimp only [List.set]; try rfl) ?_
  refine q_is rfl rfl (does_load (u := (Iv A_b.x)) (ev rfl) Try.isAgg2 (Cells.at (Blk.cells ((((hB37.ext E45).ext E55).ext E60).ext E63)) 4 rfl)) (by dsimp only [List.set]; try rfl) ?_
  refine q_is rfl rfl (does_icmp (p := A_a.x) (q := A_b.x) (.inr (.inl rfl)) (ev rfl) (ev rfl)) (by dsimp only [List.set]; try rfl) ?_
  refine wpList_nil (hK70 _ _ ?_)
  refine wp_cond_split (t := icmp .neq A_a.x A_b.x) (ev rfl) (fun c71 => ?_) (fun c71 => ?_)
  · have c71' := c71
    (try simp only [icmp, Bool.and_eq_true, Bool.or_eq_true, Bool.and_eq_false_iff, Bool.or_eq_false_iff, Bool.not_eq_true', Bool.not_eq_false', decide_eq_true_eq, decide_eq_false_iff_not, beq_iff_eq, bne_iff_ne, beq_eq_false_iff_ne, bne_eq_false_iff_eq] at c71')
    refine wp_seq_k fun K72 hK72 => ?_
    refine wp_region_lit ?_
    refine q_is rfl rfl (does_assign (u := (Bo false)) (ev rfl)) (by dsimp only [List.set]; try rfl) ?_
    refine wpList_nil (hK72 _ _ ?_)
    refine wp_ret ?_
    dsimp only [Exit.then, Exit.inBlock]
    refine ret_val (v := (Bo false)) (res_T rfl (slot rfl)) X65 ?_
    try simp only [h2, h4, h6, h8, h12, h14, h16, h18, h54, h59] at c48 c66 c71
    have x73 : (sameG A_a A_b) = false := by first | with_reducible rfl | (simp only [sameG, icmp, h2, h4, h6, h8, h12, h14, h16, h18, h54, h59, c48, c66, c71]; done) | (simp [sameG, icmp, h2, h4, h6, h8, h12, h14, h16, h18, h54, h59, c48, c66, c71]; done) | (revert c48 c66 c71; simp +contextual [sameG, icmp, h2, h4, h6, h8, h12, h14, h16, h18, h54, h59]; done) | (rcases c48' with hh | hh <;> simp only [hh, sameG, icmp, h2, h4, h6, h8, h12, h14, h16, h18, h54, h59, c48, c66, c71]; done) | (rcases c66' with hh | hh <;> simp only [hh, sameG, icmp, h2, h4, h6, h8, h12, h14, h16, h18, h54, h59, c48, c66, c71]; done) | (rcases c71' with hh | hh <;> simp only [hh, sameG, icmp, h2, h4, h6, h8, h12, h14, h16, h18, h54, h59, c48, c66, c71]; done) | (rcases c71' with hh | hh <;> simp_all [sameG, icmp]; done) | (rcases c71' with hh | hh | hh <;> simp_all [sameG, icmp]; done) | (rcases c71' with hh | hh | hh | hh <;> simp_all [sameG, icmp]; done) | (simp_all [sameG, icmp]; done) | rfl
    exact (by first | rfl | rw [x73])
  have c71' := c71
  (try simp only [icmp, Bool.and_eq_true, Bool.or_eq_true, Bool.and_eq_false_iff, Bool.or_eq_false_iff, Bool.not_eq_true', Bool.not_eq_false', decide_eq_true_eq, decide_eq_false_iff_not, beq_iff_eq, bne_iff_ne, beq_eq_false_iff_ne, bne_eq_false_iff_eq] at c71')
  refine wp_skip (hK69 _ _ ?_)
  refine wp_seq_k fun K74 hK74 => ?_
  refine wp_seq_k fun K75 hK75 => ?_
  refine wp_region_lit ?_
  refine q_is rfl rfl (does_fieldAddr (ev rfl) fa31_3) (by dsimp only [List.set]; try rfl) ?_
  refine q_is rfl rfl (does_load (u := (Iv A_a.y)) (ev rfl) Try.isAgg2 (Cells.at (Blk.cells (((((hB30.ext E38).ext E45).ext E55).ext E60).ext E63)) 5 rfl)) (by dsimp only [List.set]; try rfl) ?_
  refine q_is rfl rfl (does_fieldAddr (ev rfl) fa31_3) (by dsimp only [List.set]; try rfl) ?_
  refine q_is rfl rfl (does_load (u := (Iv A_b.y)) (ev rfl) Try.isAgg2 (Cells.at (Blk.cells ((((hB37.ext E45).ext E55).ext E60).ext E63)) 5 rfl)) (by dsimp only [List.set]; try rfl) ?_
  refine q_is rfl rfl (does_icmp (p := A_a.y) (q := A_b.y) (.inr (.inl rfl)) (ev rfl) (ev rfl)) (by dsimp only [List.set]; try rfl) ?_
  refine wpList_nil (hK75 _ _ ?_)
  refine wp_cond_split (t := icmp .neq A_a.y A_b.y) (ev rfl) (fun c76 => ?_) (fun c76 => ?_)
  · have c76' := c76
    (try simp only [icmp, Bool.and_eq_true, Bool.or_eq_true, Bool.and_eq_false_iff, Bool.or_eq_false_iff, Bool.not_eq_true', Bool.not_eq_false', decide_eq_true_eq, decide_eq_false_iff_not, beq_iff_eq, bne_iff_ne, beq_eq_false_iff_ne, bne_eq_false_iff_eq] at c76')
    refine wp_seq_k fun K77 hK77 => ?_
    refine wp_region_lit ?_
    refine q_is rfl rfl (does_assign (u := (Bo false)) (ev rfl)) (by dsimp only [List.set]; try rfl) ?_
    refine wpList_nil (hK77 _ _ ?_)
    refine wp_ret ?_
    dsimp only [Exit.then, Exit.inBlock]
    refine ret_val (v := (Bo false)) (res_T rfl (slot rfl)) X65 ?_
    try simp only [h2, h4, h6, h8, h12, h14, h16, h18, h54, h59] at c48 c66 c71 c76
    have x78 : (sameG A_a A_b) = false := by first | with_reducible rfl | (simp only [sameG, icmp, h2, h4, h6, h8, h12, h14, h16, h18, h54, h59, c48, c66, c71, c76]; done) | (simp [sameG, icmp, h2, h4, h6, h8, h12, h14, h16, h18, h54, h59, c48, c66, c71, c76]; done) | (revert c48 c66 c71 c76; simp +contextual [sameG, icmp, h2, h4, h6, h8, h12, h14, h16, h18, h54, h59]; done) | (rcases c48' with hh | hh <;> simp only [hh, sameG, icmp, h2, h4, h6, h8, h12, h14, h16, h18, h54, h59, c48, c66, c71, c76]; done) | (rcases c66' with hh | hh <;> simp only [hh, sameG, icmp, h2, h4, h6, h8, h12, h14, h16, h18, h54, h59, c48, c66, c71, c76]; done) | (rcases c71' with hh | hh <;> simp only [hh, sameG, icmp, h2, h4, h6, h8, h12, h14, h16, h18, h54, h59, c48, c66, c71, c76]; done) | (rcases c76' with hh | hh <;> simp only [hh, sameG, icmp, h2, h4, h6, h8, h12, h14, h16, h18, h54, h59, c48, c66, c71, c76]; done) | (rcases c76' with hh | hh <;> simp_all [sameG, icmp]; done) | (rcases c76' with hh | hh | hh <;> simp_all [sameG, icmp]; done) | (rcases c76' with hh | hh | hh | hh <;> simp_all [sameG, icmp]; done) | (simp_all [sameG, icmp]; done) | rfl
    exact (by first | rfl | rw [x78])
  have c76' := c76
  (try simp only [icmp, Bool.and_eq_true, Bool.or_eq_true, Bool.and_eq_false_iff, Bool.or_eq_false_iff, Bool.not_eq_true', Bool.not_eq_false', decide_eq_true_eq, decide_eq_false_iff_not, beq_iff_eq, bne_iff_ne, beq_eq_false_iff_ne, bne_eq_false_iff_eq] at c76')
  refine wp_skip (hK74 _ _ ?_)
  refine wp_seq_k fun K79 hK79 => ?_
  refine wp_seq_k fun K80 hK80 => ?_
  refine wp_region_lit ?_
  refine q_is rfl rfl (does_fieldAddr (ev rfl) fa31_4) (by dsimp only [List.set]; try rfl) ?_
  refine q_is rfl rfl (does_load (u := (Iv A_a.z)) (ev rfl) Try.isAgg2 (Cells.at (Blk.cells (((((hB30.ext E38).ext E45).ext E55).ext E60).ext E63)) 6 rfl)) (by dsimp only [List.set]; try rfl) ?_
  refine q_is rfl rfl (does_fieldAddr (ev rfl) fa31_4) (by dsimp only [List.set]; try rfl) ?_
  refine q_is rfl rfl (does_load (u := (Iv A_b.z)) (ev rfl) Try.isAgg2 (Cells.at (Blk.cells ((((hB37.ext E45).ext E55).ext E60).ext E63)) 6 rfl)) (by dsimp only [List.set]; try rfl) ?_
  refine q_is rfl rfl (does_icmp (p := A_a.z) (q := A_b.z) (.inr (.inl rfl)) (ev rfl) (ev rfl)) (by dsimp only [List.set]; try rfl) ?_
  refine wpList_nil (hK80 _ _ ?_)
  refine wp_cond_split (t := icmp .neq A_a.z A_b.z) (ev rfl) (fun c81 => ?_) (fun c81 => ?_)
  · have c81' := c81
    (try simp only [icmp, Bool.and_eq_true, Bool.or_eq_true, Bool.and_eq_false_iff, Bool.or_eq_false_iff, Bool.not_eq_true', Bool.not_eq_false', decide_eq_true_eq, decide_eq_false_iff_not, beq_iff_eq, bne_iff_ne, beq_eq_false_iff_ne, bne_eq_false_iff_eq] at c81')
    refine wp_seq_k fun K82 hK82 => ?_
    refine wp_region_lit ?_
    refine q_is rfl rfl (does_assign (u := (Bo false)) (ev rfl)) (by dsimp only [List.set]; try rfl) ?_
    refine wpList_nil (hK82 _ _ ?_)
    refine wp_ret ?_
    dsimp only [Exit.then, Exit.inBlock]
    refine ret_val (v := (Bo false)) (res_T rfl (slot rfl)) X65 ?_
    try simp only [h2, h4, h6, h8, h12, h14, h16, h18, h54, h59] at c48 c66 c71 c76 c81
    have x83 : (sameG A_a A_b) = false := by first | with_reducible rfl | (simp only [sameG, icmp, h2, h4, h6, h8, h12, h14, h16, h18, h54, h59, c48, c66, c71, c76, c81]; done) | (simp [sameG, icmp, h2, h4, h6, h8, h12, h14, h16, h18, h54, h59, c48, c66, c71, c76, c81]; done) | (revert c48 c66 c71 c76 c81; simp +contextual [sameG, icmp, h2, h4, h6, h8, h12, h14, h16, h18, h54, h59]; done) | (rcases c48' with hh | hh <;> simp only [hh, sameG, icmp, h2, h4, h6, h8, h12, h14, h16, h18, h54, h59, c48, c66, c71, c76, c81]; done) | (rcases c66' with hh | hh <;> simp only [hh, sameG, icmp, h2, h4, h6, h8, h12, h14, h16, h18, h54, h59, c48, c66, c71, c76, c81]; done) | (rcases c71' with hh | hh <;> simp only [hh, sameG, icmp, h2, h4, h6, h8, h12, h14, h16, h18, h54, h59, c48, c66, c71, c76, c81]; done) | (rcases c76' with hh | hh <;> simp only [hh, sameG, icmp, h2, h4, h6, h8, h12, h14, h16, h18, h54, h59, c48, c66, c71, c76, c81]; done) | (rcases c81' with hh | hh <;> simp only [hh, sameG, icmp, h2, h4, h6, h8, h12, h14, h16, h18, h54, h59, c48, c66, c71, c76, c81]; done) | (rcases c81' with hh | hh <;> simp_all [sameG, icmp]; done) | (rcases c81' with hh | hh | hh <;> simp_all [sameG, icmp]; done) | (rcases c81' with hh | hh | hh | hh <;> simp_all [sameG, icmp]; done) | (simp_all [sameG, icmp]; done) | rfl
    exact (by first | rfl | rw [x83])
  have c81' := c81
  (try simp only [icmp, Bool.and_eq_true, Bool.or_eq_true, Bool.and_eq_false_iff, Bool.or_eq_false_iff, Bool.not_eq_true', Bool.not_eq_false', decide_eq_true_eq, decide_eq_false_iff_not, beq_iff_eq, bne_iff_ne, beq_eq_false_iff_ne, bne_eq_false_iff_eq] at c81')
  refine wp_skip (hK79 _ _ ?_)
  refine wp_seq_k fun K84 hK84 => ?_
  refine wp_seq_k fun K85 hK85 => ?_
  refine wp_region_lit ?_
  refine q_is rfl rfl (does_fieldAddr (ev rfl) fa31_5) (by dsimp only [List.set]; try rfl) ?_
  refine q_is rfl rfl (does_load (u := (.slice p21 A_a.vals.length q22)) (ev rfl) Try.isAgg25 (Cells.at (Blk.cells (((((hB30.ext E38).ext E45).ext E55).ext E60).ext E63)) 7 rfl)) (by dsimp only [List.set]; try rfl) ?_
  refine q_is rfl rfl (does_fieldAddr (ev rfl) fa31_5) (by dsimp only [List.set]; try rfl) ?_
  refine q_is rfl rfl (does_load (u := (.slice p24 A_b.vals.length q25)) (ev rfl) Try.isAgg25 (Cells.at (Blk.cells ((((hB37.ext E45).ext E55).ext E60).ext E63)) 7 rfl)) (by dsimp only [List.set]; try rfl) ?_
  refine seqd rfl rfl (does_call (args := #[(.slice p21 A_a.vals.length q22), (.slice p24 A_b.vals.length q25)]) cal33 (evs rfl) (c_laws_eqFloat32S (.slice p21 A_a.vals.length q22) A_a.vals (.slice p24 A_b.vals.length q25) A_b.vals _ (Sl.ext hs23 RF.mono X65) (Sl.ext hs26 RF.mono X65))) ?_; rintro _ w87 ⟨E86, rfl⟩
  have X88 := Ext.gr X65 E86
  show wpList _ _ _ _ (fr [(.agg #[(Fl r1), (Fl r3), (Fl r5), (Fl r7), (Iv A_a.x), (Iv A_a.y), (Iv A_a.z), (.slice p21 A_a.vals.length q22)]), (.agg #[(Fl r11), (Fl r13), (Fl r15), (Fl r17), (Iv A_b.x), (Iv A_b.y), (Iv A_b.z), (.slice p24 A_b.vals.length q25)]), (Pt b28 0), (Pt b35 0), (Bo false), (Pt b28 0), (.agg #[(Fl r1), (Fl r3), (Fl r5)]), (Pt b35 0), (.agg #[(Fl r11), (Fl r13), (Fl r15)]), (Bo (sameV A_a.low A_b.low)), (Bo (!(sameV A_a.low A_b.low))), (Pt b28 3), (Fl r7), (Fd r53), (Pt b35 3), (Fl r17), (Fd r58), (Bo (sameF (cf .f64 r53) (cf .f64 r58))), (Bo (!(sameF (cf .f64 r53) (cf .f64 r58)))), (Pt b28 4), (Iv A_a.x), (Pt b35 4), (Iv A_b.x), (Bo (icmp .neq A_a.x A_b.x)), (Pt b28 5), (Iv A_a.y), (Pt b35 5), (Iv A_b.y), (Bo (icmp .neq A_a.y A_b.y)), (Pt b28 6), (Iv A_a.z), (Pt b35 6), (Iv A_b.z), (Bo (icmp .neq A_a.z A_b.z)), (Pt b28 7), (.slice p21 A_a.vals.length q22), (Pt b35 7), (.slice p24 A_b.vals.length q25), (Bo (sameL A_a.vals A_b.vals)), Ud]) _
  refine q_is rfl rfl (does_not (ev rfl)) (by dsimp only [List.set]; try rfl) ?_
  refine wpList_nil (hK85 _ _ ?_)
  refine wp_cond_split (t := !(sameL A_a.vals A_b.vals)) (ev rfl) (fun c89 => ?_) (fun c89 => ?_)
  · rw [Bool.not_eq_true'] at c89
    have c89' := c89
    refine wp_seq_k fun K90 hK90 => ?_
    refine wp_region_lit ?_
    refine q_is rfl rfl (does_assign (u := (Bo false)) (ev rfl)) (by dsimp only [List.set]; try rfl) ?_
    refine wpList_nil (hK90 _ _ ?_)
    refine wp_ret ?_
    dsimp only [Exit.then, Exit.inBlock]
    refine ret_val (v := (Bo false)) (res_T rfl (slot rfl)) X88 ?_
    try simp only [h2, h4, h6, h8, h12, h14, h16, h18, h54, h59] at c48 c66 c71 c76 c81 c89
    have x91 : (sameG A_a A_b) = false := by first | with_reducible rfl | (simp only [sameG, icmp, h2, h4, h6, h8, h12, h14, h16, h18, h54, h59, c48, c66, c71, c76, c81, c89]; done) | (simp [sameG, icmp, h2, h4, h6, h8, h12, h14, h16, h18, h54, h59, c48, c66, c71, c76, c81, c89]; done) | (revert c48 c66 c71 c76 c81 c89; simp +contextual [sameG, icmp, h2, h4, h6, h8, h12, h14, h16, h18, h54, h59]; done) | (rcases c48' with hh | hh <;> simp only [hh, sameG, icmp, h2, h4, h6, h8, h12, h14, h16, h18, h54, h59, c48, c66, c71, c76, c81, c89]; done) | (rcases c66' with hh | hh <;> simp only [hh, sameG, icmp, h2, h4, h6, h8, h12, h14, h16, h18, h54, h59, c48, c66, c71, c76, c81, c89]; done) | (rcases c71' with hh | hh <;> simp only [hh, sameG, icmp, h2, h4, h6, h8, h12, h14, h16, h18, h54, h59, c48, c66, c71, c76, c81, c89]; done) | (rcases c76' with hh | hh <;> simp only [hh, sameG, icmp, h2, h4, h6, h8, h12, h14, h16, h18, h54, h59, c48, c66, c71, c76, c81, c89]; done) | (rcases c81' with hh | hh <;> simp only [hh, sameG, icmp, h2, h4, h6, h8, h12, h14, h16, h18, h54, h59, c48, c66, c71, c76, c81, c89]; done) | (rcases c89' with hh | hh <;> simp only [hh, sameG, icmp, h2, h4, h6, h8, h12, h14, h16, h18, h54, h59, c48, c66, c71, c76, c81, c89]; done) | (rcases c89' with hh | hh <;> simp_all [sameG, icmp]; done) | (rcases c89' with hh | hh | hh <;> simp_all [sameG, icmp]; done) | (rcases c89' with hh | hh | hh | hh <;> simp_all [sameG, icmp]; done) | (simp_all [sameG, icmp]; done) | rfl
    exact (by first | rfl | rw [x91])
  rw [Bool.not_eq_false'] at c89
  have c89' := c89
  refine wp_skip (hK84 _ _ ?_)
  refine wp_seq_k fun K92 hK92 => ?_
  refine wp_region_lit ?_
  refine q_is rfl rfl (does_assign (u := (Bo true)) (ev rfl)) (by dsimp only [List.set]; try rfl) ?_
  refine wpList_nil (hK92 _ _ ?_)
  refine wp_ret ?_
  refine ret_val (v := (Bo true)) (res_T rfl (slot rfl)) X88 ?_
  try simp only [h2, h4, h6, h8, h12, h14, h16, h18, h54, h59] at c48 c66 c71 c76 c81 c89
  have x93 : (sameG A_a A_b) = true := by first | with_reducible rfl | (simp only [sameG, icmp, h2, h4, h6, h8, h12, h14, h16, h18, h54, h59, c48, c66, c71, c76, c81, c89]; done) | (simp [sameG, icmp, h2, h4, h6, h8, h12, h14, h16, h18, h54, h59, c48, c66, c71, c76, c81, c89]; done) | (revert c48 c66 c71 c76 c81 c89; simp +contextual [sameG, icmp, h2, h4, h6, h8, h12, h14, h16, h18, h54, h59]; done) | (rcases c48' with hh | hh <;> simp only [hh, sameG, icmp, h2, h4, h6, h8, h12, h14, h16, h18, h54, h59, c48, c66, c71, c76, c81, c89]; done) | (rcases c66' with hh | hh <;> simp only [hh, sameG, icmp, h2, h4, h6, h8, h12, h14, h16, h18, h54, h59, c48, c66, c71, c76, c81, c89]; done) | (rcases c71' with hh | hh <;> simp only [hh, sameG, icmp, h2, h4, h6, h8, h12, h14, h16, h18, h54, h59, c48, c66, c71, c76, c81, c89]; done) | (rcases c76' with hh | hh <;> simp only [hh, sameG, icmp, h2, h4, h6, h8, h12, h14, h16, h18, h54, h59, c48, c66, c71, c76, c81, c89]; done) | (rcases c81' with hh | hh <;> simp only [hh, sameG, icmp, h2, h4, h6, h8, h12, h14, h16, h18, h54, h59, c48, c66, c71, c76, c81, c89]; done) | (rcases c89' with hh | hh <;> simp only [hh, sameG, icmp, h2, h4, h6, h8, h12, h14, h16, h18, h54, h59, c48, c66, c71, c76, c81, c89]; done) | (rcases c89' with hh | hh <;> simp_all [sameG, icmp]; done) | (rcases c89' with hh | hh | hh <;> simp_all [sameG, icmp]; done) | (rcases c89' with hh | hh | hh | hh <;> simp_all [sameG, icmp]; done) | (simp_all [sameG, icmp]; done) | rfl
  exact (by first | rfl | rw [x93])

theorem c_laws_markFloat32S_nil (k : Int) (w : World) : Gives Try.prog 34 #[.slice none 0 0, Iv k] w (fun v _ => v = Iv k) := by
  refine enter [(.slice none 0 0), (Iv k), Ud, Ud, Ud, Ud, Ud, Ud, Ud, Ud, Ud, Ud, Ud, Ud, Ud, Ud, Ud, Ud, Ud, Ud] Try.func34 rfl Try.ntmps34 rfl ?_
  refine wp_seq_k fun K1 hK1 => ?_
  refine wp_region_lit ?_
  refine q_is (l' := [(.slice none 0 0), (Iv k), Ud, Ud, (Iv 0), Ud, Ud, Ud, Ud, Ud, Ud, Ud, Ud, Ud, Ud, Ud, Ud, Ud, Ud, Ud]) rfl rfl (does_assign (u := (Iv 0)) (ev rfl)) rfl ?_
  refine wpList_nil (hK1 _ _ ?_)
  refine wp_seq_k fun K2 hK2 => ?_
  refine wp_seq_k fun K3 hK3 => ?_
  refine wp_region_lit ?_
  refine q_is (l' := [(.slice none 0 0), (Iv k), Ud, Ud, (Iv 0), (Iv 0), Ud, Ud, Ud, Ud, Ud, Ud, Ud, Ud, Ud, Ud, Ud, Ud, Ud, Ud]) rfl rfl (does_assign (u := (Iv 0)) (ev rfl)) rfl ?_
  refine wpList_nil (hK3 _ _ ?_)
  refine wp_block ?_
  refine loop_unroll 1 ?_
  refine un_step ?_
  refine wp_seq_k fun K4 hK4 => ?_
  refine wp_seq_k fun K5 hK5 => ?_
  refine wp_region_lit ?_
  refine q_is (l' := [(.slice none 0 0), (Iv k), Ud, Ud, (Iv 0), (Iv 0), (Iv 0), Ud, Ud, Ud, Ud, Ud, Ud, Ud, Ud, Ud, Ud, Ud, Ud, Ud]) rfl rfl (does_move (u := (Iv 0)) (ev rfl)) rfl ?_
  refine q_is (l' := [(.slice none 0 0), (Iv k), Ud, Ud, (Iv 0), (Iv 0), (Iv 0), (.slice none 0 0), Ud, Ud, Ud, Ud, Ud, Ud, Ud, Ud, Ud, Ud, Ud, Ud]) rfl rfl (does_move (u := (.slice none 0 0)) (ev rfl)) rfl ?_
  refine q_is (l' := [(.slice none 0 0), (Iv k), Ud, Ud, (Iv 0), (Iv 0), (Iv 0), (.slice none 0 0), (Iv 0), Ud, Ud, Ud, Ud, Ud, Ud, Ud, Ud, Ud, Ud, Ud]) rfl rfl (does_len_slice Try.underlying25 (ev rfl)) rfl ?_
  refine q_is (l' := [(.slice none 0 0), (Iv k), Ud, Ud, (Iv 0), (Iv 0), (Iv 0), (.slice none 0 0), (Iv 0), (Bo false), Ud, Ud, Ud, Ud, Ud, Ud, Ud, Ud, Ud, Ud]) rfl rfl (does_icmp (p := 0) (q := 0) (.inr (.inr (.inl rfl))) (ev rfl) (ev rfl)) rfl ?_
  refine wpList_nil (hK5 _ _ ?_)
  refine wp_cond_false (ev rfl) ?_
  refine wp_exit ?_
  refine hK2 _ _ ?_
  refine wp_seq_k fun K6 hK6 => ?_
  refine wp_region_lit ?_
  refine q_is (l' := [(.slice none 0 0), (Iv k), Ud, Ud, (Iv 0), (Iv 0), (Iv 0), (.slice none 0 0), (Iv 0), (Bo false), Ud, Ud, Ud, Ud, Ud, Ud, Ud, Ud, Ud, (Iv k)]) rfl rfl (does_move (u := (Iv k)) (ev rfl)) rfl ?_
  refine q_is (l' := [(.slice none 0 0), (Iv k), Ud, Ud, (Iv k), (Iv 0), (Iv 0), (.slice none 0 0), (Iv 0), (Bo false), Ud, Ud, Ud, Ud, Ud, Ud, Ud, Ud, Ud, (Iv k)]) rfl rfl (does_assign (u := (Iv k)) (ev rfl)) rfl ?_
  refine wpList_nil (hK6 _ _ ?_)
  refine wp_ret ?_
  refine ret_val (v := (Iv k)) (res_T rfl (slot rfl)) (Ext.refl w) ?_
  have x7 : (k : Int) = k := by first | with_reducible rfl | (simp only []; done) | (simp []; done) | rfl
  exact (by first | rfl | rw [x7])

theorem c_laws_markFloat32S_blk (g N n cap : Nat) (k : Int) (w : World) (hM : Mk true k w g N 0) (hn : n * 1 ≤ N) (h0 : 0 ≤ k) (h1 : k + (n : Int) * 1 ≤ 4611686018427387904) : GivesK [g] Try.prog 34 #[.slice (some ⟨g, 0, none⟩) n cap, Iv k] w (fun v w' => v = Iv (k + (n : Int) * 1) ∧ Mk true k w' g N (n * 1)) := by
  refine enterK [(.slice (some ⟨g, 0, none⟩) n cap), (Iv k), Ud, Ud, Ud, Ud, Ud, Ud, Ud, Ud, Ud, Ud, Ud, Ud, Ud, Ud, Ud, Ud, Ud, Ud] Try.func34 rfl Try.ntmps34 rfl ?_
  refine wp_seq_k fun K1 hK1 => ?_
  refine wp_region_lit ?_
  refine q_is (l' := [(.slice (some ⟨g, 0, none⟩) n cap), (Iv k), Ud, Ud, (Iv 0), Ud, Ud, Ud, Ud, Ud, Ud, Ud, Ud, Ud, Ud, Ud, Ud, Ud, Ud, Ud]) rfl rfl (does_assign (u := (Iv 0)) (ev rfl)) rfl ?_
  refine wpList_nil (hK1 _ _ ?_)
  refine wp_seq_k fun K2 hK2 => ?_
  refine wp_seq_k fun K3 hK3 => ?_
  refine wp_region_lit ?_
  refine q_is (l' := [(.slice (some ⟨g, 0, none⟩) n cap), (Iv k), Ud, Ud, (Iv 0), (Iv 0), Ud, Ud, Ud, Ud, Ud, Ud, Ud, Ud, Ud, Ud, Ud, Ud, Ud, Ud]) rfl rfl (does_assign (u := (Iv 0)) (ev rfl)) rfl ?_
  refine wpList_nil (hK3 _ _ ?_)
  refine wp_block ?_
  refine loop_ghost (σ := Nat × Int) (fun s a w' => ∃ u4 : Nat → Value, a = fr [(.slice (some ⟨g, 0, none⟩) n cap), (Iv s.2), Ud, Ud, (Iv 0), (Iv (s.1 : Int)), (u4 6), (u4 7), (u4 8), (u4 9), (u4 10), (u4 11), (u4 12), (u4 13), (u4 14), (u4 15), (u4 16), (u4 17), (u4 18), Ud] ∧ KpL [g] w w' ∧ Mk true k w' g N (s.1 * 1) ∧ (s.1 ≤ n ∧ s.2 = k + (s.1 : Int) * 1)) (fun s => n - s.1) (0, k) ?_ ?_
  · refine ⟨fun t => (([(.slice (some ⟨g, 0, none⟩) n cap), (Iv k), Ud, Ud, (Iv 0), (Iv 0), Ud, Ud, Ud, Ud, Ud, Ud, Ud, Ud, Ud, Ud, Ud, Ud, Ud, Ud] : List Value)[t]?).getD undef, rfl, KpL.refl _ _, (Mk.cast hM (by simp)), ?_⟩
    exact ⟨Nat.zero_le _, by simp⟩
  · rintro s a w5 ⟨u4, rfl, E6, hF7, ⟨hk, hn2⟩⟩
    have X8 := KpL.more (KpL.refl [g] w) E6 (allS (.inl (by simp)) all0)
    refine wp_seq_k fun K9 hK9 => ?_
    refine wp_seq_k fun K10 hK10 => ?_
    refine wp_region_lit ?_
    refine q_is (l' := [(.slice (some ⟨g, 0, none⟩) n cap), (Iv s.2), Ud, Ud, (Iv 0), (Iv (s.1 : Int)), (Iv (s.1 : Int)), (u4 7), (u4 8), (u4 9), (u4 10), (u4 11), (u4 12), (u4 13), (u4 14), (u4 15), (u4 16), (u4 17), (u4 18), Ud]) rfl rfl (does_move (u := (Iv (s.1 : Int))) (ev rfl)) rfl ?_
    refine q_is (l' := [(.slice (some ⟨g, 0, none⟩) n cap), (Iv s.2), Ud, Ud, (Iv 0), (Iv (s.1 : Int)), (Iv (s.1 : Int)), (.slice (some ⟨g, 0, none⟩) n cap), (u4 8), (u4 9), (u4 10), (u4 11), (u4 12), (u4 13), (u4 14), (u4 15), (u4 16), (u4 17), (u4 18), Ud]) rfl rfl (does_move (u := (.slice (some ⟨g, 0, none⟩) n cap)) (ev rfl)) rfl ?_
    refine q_is (l' := [(.slice (some ⟨g, 0, none⟩) n cap), (Iv s.2), Ud, Ud, (Iv 0), (Iv (s.1 : Int)), (Iv (s.1 : Int)), (.slice (some ⟨g, 0, none⟩) n cap), (Iv (n : Int)), (u4 9), (u4 10), (u4 11), (u4 12), (u4 13), (u4 14), (u4 15), (u4 16), (u4 17), (u4 18), Ud]) rfl rfl (does_len_slice Try.underlying25 (ev rfl)) rfl ?_
    refine q_is (l' := [(.slice (some ⟨g, 0, none⟩) n cap), (Iv s.2), Ud, Ud, (Iv 0), (Iv (s.1 : Int)), (Iv (s.1 : Int)), (.slice (some ⟨g, 0, none⟩) n cap), (Iv (n : Int)), (Bo (icmp .lss (s.1 : Int) (n : Int))), (u4 10), (u4 11), (u4 12), (u4 13), (u4 14), (u4 15), (u4 16), (u4 17), (u4 18), Ud]) rfl rfl (does_icmp (p := (s.1 : Int)) (q := (n : Int)) (.inr (.inr (.inl rfl))) (ev rfl) (ev rfl)) rfl ?_
    refine wpList_nil (hK10 _ _ ?_)
    refine wp_cond_split (t := icmp .lss (s.1 : Int) (n : Int)) (ev rfl) (fun c11 => ?_) (fun c11 => ?_)
    · have c11' := c11
      (try simp only [icmp, Bool.and_eq_true, Bool.or_eq_true, Bool.and_eq_false_iff, Bool.or_eq_false_iff, Bool.not_eq_true', Bool.not_eq_false', decide_eq_true_eq, decide_eq_false_iff_not, beq_iff_eq, bne_iff_ne, beq_eq_false_iff_ne, bne_eq_false_iff_eq] at c11')
      refine wp_skip (hK9 _ _ ?_)
      refine wp_seq_k fun K12 hK12 => ?_
      refine wp_block ?_
      refine wp_seq_k fun K13 hK13 => ?_
      refine wp_region_lit ?_
      refine q_is (l' := [(.slice (some ⟨g, 0, none⟩) n cap), (Iv s.2), Ud, Ud, (Iv 0), (Iv (s.1 : Int)), (Iv (s.1 : Int)), (.slice (some ⟨g, 0, none⟩) n cap), (Iv (n : Int)), (Bo (icmp .lss (s.1 : Int) (n : Int))), (u4 10), (u4 11), (.slice (some ⟨g, 0, none⟩) n cap), (u4 13), (u4 14), (u4 15), (u4 16), (u4 17), (u4 18), Ud]) rfl rfl (does_move (u := (.slice (some ⟨g, 0, none⟩) n cap)) (ev rfl)) rfl ?_
      refine q_is (l' := [(.slice (some ⟨g, 0, none⟩) n cap), (Iv s.2), Ud, Ud, (Iv 0), (Iv (s.1 : Int)), (Iv (s.1 : Int)), (.slice (some ⟨g, 0, none⟩) n cap), (Iv (n : Int)), (Bo (icmp .lss (s.1 : Int) (n : Int))), (u4 10), (u4 11), (.slice (some ⟨g, 0, none⟩) n cap), (Iv (s.1 : Int)), (u4 14), (u4 15), (u4 16), (u4 17), (u4 18), Ud]) rfl rfl (does_move (u := (Iv (s.1 : Int))) (ev rfl)) rfl ?_
      refine q_is (l' := [(.slice (some ⟨g, 0, none⟩) n cap), (Iv s.2), Ud, Ud, (Iv 0), (Iv (s.1 : Int)), (Iv (s.1 : Int)), (.slice (some ⟨g, 0, none⟩) n cap), (Iv (n : Int)), (Bo (icmp .lss (s.1 : Int) (n : Int))), (u4 10), (u4 11), (.slice (some ⟨g, 0, none⟩) n cap), (Iv (s.1 : Int)), (Iv s.2), (u4 15), (u4 16), (u4 17), (u4 18), Ud]) rfl rfl (does_move (u := (Iv s.2)) (ev rfl)) rfl ?_
      refine q_is (l' := [(.slice (some ⟨g, 0, none⟩) n cap), (Iv s.2), Ud, Ud, (Iv 0), (Iv (s.1 : Int)), (Iv (s.1 : Int)), (.slice (some ⟨g, 0, none⟩) n cap), (Iv (n : Int)), (Bo (icmp .lss (s.1 : Int) (n : Int))), (u4 10), (u4 11), (.slice (some ⟨g, 0, none⟩) n cap), (Iv (s.1 : Int)), (Iv s.2), (Fl (FloatKind.f32.nearest s.2)), (u4 16), (u4 17), (u4 18), Ud]) rfl rfl (does_conv_if (k := .f32) Try.underlying3 Try.underlying22 (ev rfl)) rfl ?_
      refine q_is (l' := [(.slice (some ⟨g, 0, none⟩) n cap), (Iv s.2), Ud, Ud, (Iv 0), (Iv (s.1 : Int)), (Iv (s.1 : Int)), (.slice (some ⟨g, 0, none⟩) n cap), (Iv (n : Int)), (Bo (icmp .lss (s.1 : Int) (n : Int))), (u4 10), (u4 11), (.slice (some ⟨g, 0, none⟩) n cap), (Iv (s.1 : Int)), (Iv s.2), (Fl (FloatKind.f32.nearest s.2)), (Pt g (s.1 * 1)), (u4 17), (u4 18), Ud]) rfl rfl (does_indexOwn (b := g) (n := n) (i := (s.1 : Int)) Try.underlying25 Try.sizeOf22 (ev rfl) (ev rfl) (by omega) (by omega)) rfl ?_
      refine seqn rfl rfl (does_mark (fl := true) (k := k) (N := N) (off := s.1 * 1) (j := s.1 * 1) (u := (Fl (FloatKind.f32.nearest s.2))) (ev rfl) (ev rfl) Try.sizeOf22 (mkc_f (by first | rfl | omega)) (by omega) (by omega) hF7) ?_; rintro _ w16 ⟨rfl, W14, hM15⟩
      have X17 := KpL.more X8 (KpL.of_wr W14) (allS (.inl (by simp)) all0)
      refine wpList_nil (hK13 _ _ ?_)
      refine wp_region_lit ?_
      refine q_is (l' := [(.slice (some ⟨g, 0, none⟩) n cap), (Iv s.2), Ud, Ud, (Iv 0), (Iv (s.1 : Int)), (Iv (s.1 : Int)), (.slice (some ⟨g, 0, none⟩) n cap), (Iv (n : Int)), (Bo (icmp .lss (s.1 : Int) (n : Int))), (u4 10), (u4 11), (.slice (some ⟨g, 0, none⟩) n cap), (Iv (s.1 : Int)), (Iv s.2), (Fl (FloatKind.f32.nearest s.2)), (Pt g (s.1 * 1)), (Iv s.2), (u4 18), Ud]) rfl rfl (does_move (u := (Iv s.2)) (ev rfl)) rfl ?_
      refine q_is (l' := [(.slice (some ⟨g, 0, none⟩) n cap), (Iv s.2), Ud, Ud, (Iv 0), (Iv (s.1 : Int)), (Iv (s.1 : Int)), (.slice (some ⟨g, 0, none⟩) n cap), (Iv (n : Int)), (Bo (icmp .lss (s.1 : Int) (n : Int))), (u4 10), (u4 11), (.slice (some ⟨g, 0, none⟩) n cap), (Iv (s.1 : Int)), (Iv s.2), (Fl (FloatKind.f32.nearest s.2)), (Pt g (s.1 * 1)), (Iv s.2), (Iv (s.2 + 1)), Ud]) rfl rfl (does_iarith (p := s.2) (q := 1) (r := s.2 + 1) (ev rfl) (ev rfl) (.inl ⟨rfl, (in_i64 (by omega) (by omega)).symm⟩)) rfl ?_
      refine q_is (l' := [(.slice (some ⟨g, 0, none⟩) n cap), (Iv (s.2 + 1)), Ud, Ud, (Iv 0), (Iv (s.1 : Int)), (Iv (s.1 : Int)), (.slice (some ⟨g, 0, none⟩) n cap), (Iv (n : Int)), (Bo (icmp .lss (s.1 : Int) (n : Int))), (u4 10), (u4 11), (.slice (some ⟨g, 0, none⟩) n cap), (Iv (s.1 : Int)), (Iv s.2), (Fl (FloatKind.f32.nearest s.2)), (Pt g (s.1 * 1)), (Iv s.2), (Iv (s.2 + 1)), Ud]) rfl rfl (does_assign (u := (Iv (s.2 + 1))) (ev rfl)) rfl ?_
      refine wpList_nil (hK12 _ _ ?_)
      refine wp_region_lit ?_
      refine q_is (l' := [(.slice (some ⟨g, 0, none⟩) n cap), (Iv (s.2 + 1)), Ud, Ud, (Iv 0), (Iv (s.1 : Int)), (Iv (s.1 : Int)), (.slice (some ⟨g, 0, none⟩) n cap), (Iv (n : Int)), (Bo (icmp .lss (s.1 : Int) (n : Int))), (Iv (s.1 : Int)), (u4 11), (.slice (some ⟨g, 0, none⟩) n cap), (Iv (s.1 : Int)), (Iv s.2), (Fl (FloatKind.f32.nearest s.2)), (Pt g (s.1 * 1)), (Iv s.2), (Iv (s.2 + 1)), Ud]) rfl rfl (does_move (u := (Iv (s.1 : Int))) (ev rfl)) rfl ?_
      refine q_is (l' := [(.slice (some ⟨g, 0, none⟩) n cap), (Iv (s.2 + 1)), Ud, Ud, (Iv 0), (Iv (s.1 : Int)), (Iv (s.1 : Int)), (.slice (some ⟨g, 0, none⟩) n cap), (Iv (n : Int)), (Bo (icmp .lss (s.1 : Int) (n : Int))), (Iv (s.1 : Int)), (Iv ((s.1 : Int) + 1)), (.slice (some ⟨g, 0, none⟩) n cap), (Iv (s.1 : Int)), (Iv s.2), (Fl (FloatKind.f32.nearest s.2)), (Pt g (s.1 * 1)), (Iv s.2), (Iv (s.2 + 1)), Ud]) rfl rfl (does_iarith (p := (s.1 : Int)) (q := 1) (r := (s.1 : Int) + 1) (ev rfl) (ev rfl) (.inl ⟨rfl, (in_i64 (by omega) (by omega)).symm⟩)) rfl ?_
      refine q_is (l' := [(.slice (some ⟨g, 0, none⟩) n cap), (Iv (s.2 + 1)), Ud, Ud, (Iv 0), (Iv ((s.1 : Int) + 1)), (Iv (s.1 : Int)), (.slice (some ⟨g, 0, none⟩) n cap), (Iv (n : Int)), (Bo (icmp .lss (s.1 : Int) (n : Int))), (Iv (s.1 : Int)), (Iv ((s.1 : Int) + 1)), (.slice (some ⟨g, 0, none⟩) n cap), (Iv (s.1 : Int)), (Iv s.2), (Fl (FloatKind.f32.nearest s.2)), (Pt g (s.1 * 1)), (Iv s.2), (Iv (s.2 + 1)), Ud]) rfl rfl (does_assign (u := (Iv ((s.1 : Int) + 1))) (ev rfl)) rfl ?_
      refine wpList_nil ?_
      refine ⟨(s.1 + 1, s.2 + 1), ⟨fun t => (([(.slice (some ⟨g, 0, none⟩) n cap), (Iv (s.2 + 1)), Ud, Ud, (Iv 0), (Iv ((s.1 : Int) + 1)), (Iv (s.1 : Int)), (.slice (some ⟨g, 0, none⟩) n cap), (Iv (n : Int)), (Bo (icmp .lss (s.1 : Int) (n : Int))), (Iv (s.1 : Int)), (Iv ((s.1 : Int) + 1)), (.slice (some ⟨g, 0, none⟩) n cap), (Iv (s.1 : Int)), (Iv s.2), (Fl (FloatKind.f32.nearest s.2)), (Pt g (s.1 * 1)), (Iv s.2), (Iv (s.2 + 1)), Ud] : List Value)[t]?).getD undef, ?_, (KpL.more E6 (KpL.of_wr W14) (allS (.inl (by simp)) all0)), (Mk.cast hM15 (by (try dsimp only); omega)), ?_⟩, ?_⟩
      · first | rfl | (simp only [Nat.cast_add, Nat.cast_one, Int.natCast_add, Int.natCast_one]; rfl)
      · (try dsimp only); exact ⟨by omega, by omega⟩
      · (try dsimp only); omega
    have c11' := c11
    (try simp only [icmp, Bool.and_eq_true, Bool.or_eq_true, Bool.and_eq_false_iff, Bool.or_eq_false_iff, Bool.not_eq_true', Bool.not_eq_false', decide_eq_true_eq, decide_eq_false_iff_not, beq_iff_eq, bne_iff_ne, beq_eq_false_iff_ne, bne_eq_false_iff_eq] at c11')
    refine wp_exit ?_
    refine hK2 _ _ ?_
    refine wp_seq_k fun K18 hK18 => ?_
    refine wp_region_lit ?_
    refine q_is (l' := [(.slice (some ⟨g, 0, none⟩) n cap), (Iv s.2), Ud, Ud, (Iv 0), (Iv (s.1 : Int)), (Iv (s.1 : Int)), (.slice (some ⟨g, 0, none⟩) n cap), (Iv (n : Int)), (Bo (icmp .lss (s.1 : Int) (n : Int))), (u4 10), (u4 11), (u4 12), (u4 13), (u4 14), (u4 15), (u4 16), (u4 17), (u4 18), (Iv s.2)]) rfl rfl (does_move (u := (Iv s.2)) (ev rfl)) rfl ?_
    refine q_is (l' := [(.slice (some ⟨g, 0, none⟩) n cap), (Iv s.2), Ud, Ud, (Iv s.2), (Iv (s.1 : Int)), (Iv (s.1 : Int)), (.slice (some ⟨g, 0, none⟩) n cap), (Iv (n : Int)), (Bo (icmp .lss (s.1 : Int) (n : Int))), (u4 10), (u4 11), (u4 12), (u4 13), (u4 14), (u4 15), (u4 16), (u4 17), (u4 18), (Iv s.2)]) rfl rfl (does_assign (u := (Iv s.2)) (ev rfl)) rfl ?_
    refine wpList_nil (hK18 _ _ ?_)
    refine wp_ret ?_
    refine ret_valK (v := (Iv s.2)) (res_T rfl (slot rfl)) X8 ?_
    have hj : s.1 = n := by omega
    exact ⟨by first | rfl | (show Value.int _ _ = Value.int _ _; congr 1; omega), Mk.cast hF7 (by rw [hj])⟩

theorem c_laws_markFloat32S (a : Value) (n : Nat) (L : List Nat) (B : Nat) (k : Int) (w : World) (ha : WL 1 B w L a n) (h0 : 0 ≤ k) (h1 : k + (n : Int) * 1 ≤ 4611686018427387904) : GivesK L Try.prog 34 #[a, Iv k] w (fun v w' => v = Iv (k + (n : Int) * 1) ∧ Hang B w' (fun u => Sl RF 1 u a (mkL fF 1 k n))) := by
  obtain ⟨hL, ⟨rfl, rfl, rfl⟩ | ⟨g, cap, cs, rfl, rfl, hB, hn, hc⟩⟩ := ha
  · exact (Gives.toK (c_laws_markFloat32S_nil k w)).mono fun v w' hv => ⟨by rw [hv]; simp, fun u _ => Sl_mk0 u⟩
  · exact (c_laws_markFloat32S_blk g cs.length n cap k w (Mk.zero hB rfl) hn h0 h1).mono fun v w' ⟨hv, hM⟩ => ⟨hv, Mk.hang hM (hL g (by simp)).1 hc (by decide) (by omega) rF⟩

theorem c_laws_markGrid (c0 : Value) (c1 : Value) (c2 : Value) (c3 : Value) (c4 : Value) (c5 : Value) (c6 : Value) (a : Value) (n : Nat) (L : List Nat) (B : Nat) (k : Int) (w : World) (ha : WL 1 B w L a n) (h0 : 0 ≤ k) (h1 : k + (n : Int) * 1 ≤ 4611686018427387904) : GivesK L Try.prog 12 #[.agg #[c0, c1, c2, c3, c4, c5, c6, a], Iv k] w (fun v w' => v = Iv (k + (n : Int) * 1) ∧ Hang B w' (fun u => Sl RF 1 u a (mkL fF 1 k n))) := by
  obtain ⟨pa, qa, rfl⟩ := WL.shape ha
  refine enterK [(.agg #[c0, c1, c2, c3, c4, c5, c6, (.slice pa n qa)]), (Iv k), Ud, Ud, Ud, Ud, Ud, Ud, Ud, Ud] Try.func12 rfl Try.ntmps12 rfl ?_
  refine wp_seq_k fun K1 hK1 => ?_
  refine wp_region_lit ?_
  refine seqd rfl rfl (does_box (u := (.agg #[c0, c1, c2, c3, c4, c5, c6, (.slice pa n qa)])) (ev rfl)) ?_; rintro _ w6 ⟨b2, rfl, hb3, hB4, E5⟩
  have g7 : w.heap.size ≤ b2 := Nat.le_trans (KpL.size (KpL.refl L w)) hb3
  change Blk _ _ [c0, c1, c2, c3, c4, c5, c6, (.slice pa n qa)] at hB4
  have X8 := KpL.ext (KpL.refl L w) E5
  show wpList _ _ _ _ (fr [(.agg #[c0, c1, c2, c3, c4, c5, c6, (.slice pa n qa)]), (Iv k), (Pt b2 0), Ud, Ud, Ud, Ud, Ud, Ud, Ud]) _
  refine q_is (l' := [(.agg #[c0, c1, c2, c3, c4, c5, c6, (.slice pa n qa)]), (Iv k), (Pt b2 0), Ud, (Iv 0), Ud, Ud, Ud, Ud, Ud]) rfl rfl (does_assign (u := (Iv 0)) (ev rfl)) rfl ?_
  refine wpList_nil (hK1 _ _ ?_)
  refine wp_seq_k fun K9 hK9 => ?_
  refine wp_region_lit ?_
  refine q_is (l' := [(.agg #[c0, c1, c2, c3, c4, c5, c6, (.slice pa n qa)]), (Iv k), (Pt b2 0), Ud, (Iv 0), (Pt b2 7), Ud, Ud, Ud, Ud]) rfl rfl (does_fieldAddr (ev rfl) fa31_5) rfl ?_
  refine q_is (l' := [(.agg #[c0, c1, c2, c3, c4, c5, c6, (.slice pa n qa)]), (Iv k), (Pt b2 0), Ud, (Iv 0), (Pt b2 7), (.slice pa n qa), Ud, Ud, Ud]) rfl rfl (does_load (u := (.slice pa n qa)) (ev rfl) Try.isAgg25 (Cells.at (Blk.cells hB4) 7 rfl)) rfl ?_
  refine q_is (l' := [(.agg #[c0, c1, c2, c3, c4, c5, c6, (.slice pa n qa)]), (Iv k), (Pt b2 0), Ud, (Iv 0), (Pt b2 7), (.slice pa n qa), (Iv k), Ud, Ud]) rfl rfl (does_move (u := (Iv k)) (ev rfl)) rfl ?_
  refine seqd rfl rfl (does_callK (args := #[(.slice pa n qa), (Iv k)]) cal34 (evs rfl) (c_laws_markFloat32S (.slice pa n qa) n L B k _ (ha.same ((Same.refl _ _).ext E5)) (by omega) (by first | omega | omega))) ?_; rintro _ w10 ⟨K11, rfl, hM12⟩
  have X13 := KpL.more X8 K11 (fun c hc => .inl (by simp [hc]))
  show wpList _ _ _ _ (fr [(.agg #[c0, c1, c2, c3, c4, c5, c6, (.slice pa n qa)]), (Iv k), (Pt b2 0), Ud, (Iv 0), (Pt b2 7), (.slice pa n qa), (Iv k), (Iv (k + (n : Int) * 1)), Ud]) _
  refine q_is (l' := [(.agg #[c0, c1, c2, c3, c4, c5, c6, (.slice pa n qa)]), (Iv (k + (n : Int) * 1)), (Pt b2 0), Ud, (Iv 0), (Pt b2 7), (.slice pa n qa), (Iv k), (Iv (k + (n : Int) * 1)), Ud]) rfl rfl (does_assign (u := (Iv (k + (n : Int) * 1))) (ev rfl)) rfl ?_
  refine wpList_nil (hK9 _ _ ?_)
  refine wp_seq_k fun K16 hK16 => ?_
  refine wp_region_lit ?_
  refine q_is (l' := [(.agg #[c0, c1, c2, c3, c4, c5, c6, (.slice pa n qa)]), (Iv (k + (n : Int) * 1)), (Pt b2 0), Ud, (Iv 0), (Pt b2 7), (.slice pa n qa), (Iv k), (Iv (k + (n : Int) * 1)), (Iv (k + (n : Int) * 1))]) rfl rfl (does_move (u := (Iv (k + (n : Int) * 1))) (ev rfl)) rfl ?_
  refine q_is (l' := [(.agg #[c0, c1, c2, c3, c4, c5, c6, (.slice pa n qa)]), (Iv (k + (n : Int) * 1)), (Pt b2 0), Ud, (Iv (k + (n : Int) * 1)), (Pt b2 7), (.slice pa n qa), (Iv k), (Iv (k + (n : Int) * 1)), (Iv (k + (n : Int) * 1))]) rfl rfl (does_assign (u := (Iv (k + (n : Int) * 1))) (ev rfl)) rfl ?_
  refine wpList_nil (hK16 _ _ ?_)
  refine wp_ret ?_
  refine ret_valK (v := (Iv (k + (n : Int) * 1))) (res_T rfl (slot rfl)) X13 ?_
  exact ⟨by first | rfl | (show Value.int _ _ = Value.int _ _; congr 1; omega), hM12⟩

/- laws.heldFloat32S -/
theorem c_laws_heldFloat32S (a : Value) (L_a : List Nat) (k : Int) (w : World) (hv_a : Sl RF 1 w a L_a) (hm : L_a = mkL fF 1 k L_a.length) (h0 : 0 ≤ k) (h1 : k + (L_a.length : Int) * 1 ≤ 4611686018427387904) : Gives Try.prog 35 #[a, (Iv k)] w (fun v w' => v = (Iv (k + (L_a.length : Int) * 1))) := by
  have hlen_a := Sl.len hv_a; obtain ⟨p_a, q_a, rfl⟩ := Sl.shape hv_a
  refine enter [(.slice p_a L_a.length q_a), (Iv k), Ud, Ud, Ud, Ud, Ud, Ud, Ud, Ud, Ud, Ud, Ud, Ud, Ud, Ud, Ud, Ud, Ud, Ud, Ud, Ud] Try.func35 rfl Try.ntmps35 rfl ?_
  refine wp_seq_k fun K1 hK1 => ?_
  refine wp_region_lit ?_
  refine q_is (l' := [(.slice p_a L_a.length q_a), (Iv k), Ud, Ud, (Iv 0), Ud, Ud, Ud, Ud, Ud, Ud, Ud, Ud, Ud, Ud, Ud, Ud, Ud, Ud, Ud, Ud, Ud]) rfl rfl (does_assign (u := (Iv 0)) (ev rfl)) rfl ?_
  refine wpList_nil (hK1 _ _ ?_)
  refine wp_seq_k fun K2 hK2 => ?_
  refine wp_seq_k fun K3 hK3 => ?_
  refine wp_region_lit ?_
  refine q_is (l' := [(.slice p_a L_a.length q_a), (Iv k), Ud, Ud, (Iv 0), (Iv 0), Ud, Ud, Ud, Ud, Ud, Ud, Ud, Ud, Ud, Ud, Ud, Ud, Ud, Ud, Ud, Ud]) rfl rfl (does_assign (u := (Iv 0)) (ev rfl)) rfl ?_
  refine wpList_nil (hK3 _ _ ?_)
  refine wp_block ?_
  refine loop_ghost (σ := Nat × Int) (fun s a w' => ∃ u4 : Nat → Value, a = fr [(.slice p_a L_a.length q_a), (Iv s.2), Ud, Ud, (u4 4), (Iv (s.1 : Int)), (u4 6), (u4 7), (u4 8), (u4 9), (u4 10), (u4 11), (u4 12), (u4 13), (u4 14), (u4 15), (u4 16), (u4 17), (u4 18), (u4 19), (u4 20), Ud] ∧ Ext w w' ∧ (s.1 ≤ L_a.length ∧ s.2 = k + (s.1 : Int) * 1)) (fun s => L_a.length - s.1) (0, k) ?_ ?_
  · refine ⟨fun t => (([(.slice p_a L_a.length q_a), (Iv k), Ud, Ud, (Iv 0), (Iv 0), Ud, Ud, Ud, Ud, Ud, Ud, Ud, Ud, Ud, Ud, Ud, Ud, Ud, Ud, Ud, Ud] : List Value)[t]?).getD undef, rfl, Ext.refl _, ?_⟩
    exact ⟨Nat.zero_le _, by simp⟩
  · rintro s a w5 ⟨u4, rfl, E6, ⟨hk, hn2⟩⟩
    have X8 := Ext.gr (Ext.refl w) E6
    refine wp_seq_k fun K9 hK9 => ?_
    refine wp_seq_k fun K10 hK10 => ?_
    refine wp_region_lit ?_
    refine q_is (l' := [(.slice p_a L_a.length q_a), (Iv s.2), Ud, Ud, (u4 4), (Iv (s.1 : Int)), (Iv (s.1 : Int)), (u4 7), (u4 8), (u4 9), (u4 10), (u4 11), (u4 12), (u4 13), (u4 14), (u4 15), (u4 16), (u4 17), (u4 18), (u4 19), (u4 20), Ud]) rfl rfl (does_move (u := (Iv (s.1 : Int))) (ev rfl)) rfl ?_
    refine q_is (l' := [(.slice p_a L_a.length q_a), (Iv s.2), Ud, Ud, (u4 4), (Iv (s.1 : Int)), (Iv (s.1 : Int)), (.slice p_a L_a.length q_a), (u4 8), (u4 9), (u4 10), (u4 11), (u4 12), (u4 13), (u4 14), (u4 15), (u4 16), (u4 17), (u4 18), (u4 19), (u4 20), Ud]) rfl rfl (does_move (u := (.slice p_a L_a.length q_a)) (ev rfl)) rfl ?_
    refine q_is (l' := [(.slice p_a L_a.length q_a), (Iv s.2), Ud, Ud, (u4 4), (Iv (s.1 : Int)), (Iv (s.1 : Int)), (.slice p_a L_a.length q_a), (Iv (L_a.length : Int)), (u4 9), (u4 10), (u4 11), (u4 12), (u4 13), (u4 14), (u4 15), (u4 16), (u4 17), (u4 18), (u4 19), (u4 20), Ud]) rfl rfl (does_len_slice Try.underlying25 (ev rfl)) rfl ?_
    refine q_is (l' := [(.slice p_a L_a.length q_a), (Iv s.2), Ud, Ud, (u4 4), (Iv (s.1 : Int)), (Iv (s.1 : Int)), (.slice p_a L_a.length q_a), (Iv (L_a.length : Int)), (Bo (icmp .lss (s.1 : Int) (L_a.length : Int))), (u4 10), (u4 11), (u4 12), (u4 13), (u4 14), (u4 15), (u4 16), (u4 17), (u4 18), (u4 19), (u4 20), Ud]) rfl rfl (does_icmp (p := (s.1 : Int)) (q := (L_a.length : Int)) (.inr (.inr (.inl rfl))) (ev rfl) (ev rfl)) rfl ?_
    refine wpList_nil (hK10 _ _ ?_)
    refine wp_cond_split (t := icmp .lss (s.1 : Int) (L_a.length : Int)) (ev rfl) (fun c11 => ?_) (fun c11 => ?_)
    · have c11' := c11
      (try simp only [icmp, Bool.and_eq_true, Bool.or_eq_true, Bool.and_eq_false_iff, Bool.or_eq_false_iff, Bool.not_eq_true', Bool.not_eq_false', decide_eq_true_eq, decide_eq_false_iff_not, beq_iff_eq, bne_iff_ne, beq_eq_false_iff_ne, bne_eq_false_iff_eq] at c11')
      refine wp_skip (hK9 _ _ ?_)
      refine wp_seq_k fun K12 hK12 => ?_
      refine wp_block ?_
      refine wp_seq_k fun K13 hK13 => ?_
      refine wp_seq_k fun K14 hK14 => ?_
      refine wp_region_lit ?_
      refine q_is (l' := [(.slice p_a L_a.length q_a), (Iv s.2), Ud, Ud, (u4 4), (Iv (s.1 : Int)), (Iv (s.1 : Int)), (.slice p_a L_a.length q_a), (Iv (L_a.length : Int)), (Bo (icmp .lss (s.1 : Int) (L_a.length : Int))), (u4 10), (u4 11), (.slice p_a L_a.length q_a), (u4 13), (u4 14), (u4 15), (u4 16), (u4 17), (u4 18), (u4 19), (u4 20), Ud]) rfl rfl (does_move (u := (.slice p_a L_a.length q_a)) (ev rfl)) rfl ?_
      refine q_is (l' := [(.slice p_a L_a.length q_a), (Iv s.2), Ud, Ud, (u4 4), (Iv (s.1 : Int)), (Iv (s.1 : Int)), (.slice p_a L_a.length q_a), (Iv (L_a.length : Int)), (Bo (icmp .lss (s.1 : Int) (L_a.length : Int))), (u4 10), (u4 11), (.slice p_a L_a.length q_a), (Iv (s.1 : Int)), (u4 14), (u4 15), (u4 16), (u4 17), (u4 18), (u4 19), (u4 20), Ud]) rfl rfl (does_move (u := (Iv (s.1 : Int))) (ev rfl)) rfl ?_
      obtain ⟨el1, hel1⟩ : ∃ e, L_a[s.1]? = some e := ⟨_, List.getElem?_eq_getElem (by omega)⟩
      refine seqd rfl rfl (does_indexSl (R := RF) (i := (s.1 : Int)) (xs := L_a) (e := el1) Try.underlying25 Try.sizeOf22 (ev rfl) (ev rfl) (Sl.ext hv_a RF.mono X8) (by omega) hel1) ?_; rintro _ w5 ⟨b15, o16, _, rfl, hc18, ⟨r19, rfl, h20⟩, rfl⟩
      show wpList _ _ _ _ (fr [(.slice p_a L_a.length q_a), (Iv s.2), Ud, Ud, (u4 4), (Iv (s.1 : Int)), (Iv (s.1 : Int)), (.slice p_a L_a.length q_a), (Iv (L_a.length : Int)), (Bo (icmp .lss (s.1 : Int) (L_a.length : Int))), (u4 10), (u4 11), (.slice p_a L_a.length q_a), (Iv (s.1 : Int)), (Pt b15 o16), (u4 15), (u4 16), (u4 17), (u4 18), (u4 19), (u4 20), Ud]) _
      refine q_is (l' := [(.slice p_a L_a.length q_a), (Iv s.2), Ud, Ud, (u4 4), (Iv (s.1 : Int)), (Iv (s.1 : Int)), (.slice p_a L_a.length q_a), (Iv (L_a.length : Int)), (Bo (icmp .lss (s.1 : Int) (L_a.length : Int))), (u4 10), (u4 11), (.slice p_a L_a.length q_a), (Iv (s.1 : Int)), (Pt b15 o16), (Fl r19), (u4 16), (u4 17), (u4 18), (u4 19), (u4 20), Ud]) rfl rfl (does_load (u := (Fl r19)) (ev rfl) Try.isAgg22 (Cells.at hc18 0 rfl)) rfl ?_
      refine q_is (l' := [(.slice p_a L_a.length q_a), (Iv s.2), Ud, Ud, (u4 4), (Iv (s.1 : Int)), (Iv (s.1 : Int)), (.slice p_a L_a.length q_a), (Iv (L_a.length : Int)), (Bo (icmp .lss (s.1 : Int) (L_a.length : Int))), (u4 10), (u4 11), (.slice p_a L_a.length q_a), (Iv (s.1 : Int)), (Pt b15 o16), (Fl r19), (Iv s.2), (u4 17), (u4 18), (u4 19), (u4 20), Ud]) rfl rfl (does_move (u := (Iv s.2)) (ev rfl)) rfl ?_
      refine q_is (l' := [(.slice p_a L_a.length q_a), (Iv s.2), Ud, Ud, (u4 4), (Iv (s.1 : Int)), (Iv (s.1 : Int)), (.slice p_a L_a.length q_a), (Iv (L_a.length : Int)), (Bo (icmp .lss (s.1 : Int) (L_a.length : Int))), (u4 10), (u4 11), (.slice p_a L_a.length q_a), (Iv (s.1 : Int)), (Pt b15 o16), (Fl r19), (Iv s.2), (Fl (FloatKind.f32.nearest s.2)), (u4 18), (u4 19), (u4 20), Ud]) rfl rfl (does_conv_if (k := .f32) Try.underlying3 Try.underlying22 (ev rfl)) rfl ?_
      refine q_is (l' := [(.slice p_a L_a.length q_a), (Iv s.2), Ud, Ud, (u4 4), (Iv (s.1 : Int)), (Iv (s.1 : Int)), (.slice p_a L_a.length q_a), (Iv (L_a.length : Int)), (Bo (icmp .lss (s.1 : Int) (L_a.length : Int))), (u4 10), (u4 11), (.slice p_a L_a.length q_a), (Iv (s.1 : Int)), (Pt b15 o16), (Fl r19), (Iv s.2), (Fl (FloatKind.f32.nearest s.2)), (Bo (fcmp .neq (ford .f32 (cf .f32 r19) (cf .f32 (FloatKind.f32.nearest s.2))))), (u4 19), (u4 20), Ud]) rfl rfl (does_fcmp (.inr (.inl rfl)) (ev rfl) (ev rfl)) rfl ?_
      refine wpList_nil (hK14 _ _ ?_)
      refine wp_cond_split (t := fcmp .neq (ford .f32 (cf .f32 r19) (cf .f32 (FloatKind.f32.nearest s.2)))) (ev rfl) (fun c21 => ?_) (fun c21 => ?_)
      · have c21' := c21
        exfalso; have he := mkL_at hm hel1; simp only [hel1, h20] at c21; rw [he, show s.2 = k + ((s.1 * 1 : Nat) : Int) by (rw [hn2]; omega)] at c21; have hz := fF_self (k + ((s.1 * 1 : Nat) : Int)); exact Bool.false_ne_true (hz.symm.trans c21)
      have c21' := c21
      refine wp_skip (hK13 _ _ ?_)
      refine wp_region_lit ?_
      refine q_is (l' := [(.slice p_a L_a.length q_a), (Iv s.2), Ud, Ud, (u4 4), (Iv (s.1 : Int)), (Iv (s.1 : Int)), (.slice p_a L_a.length q_a), (Iv (L_a.length : Int)), (Bo (icmp .lss (s.1 : Int) (L_a.length : Int))), (u4 10), (u4 11), (.slice p_a L_a.length q_a), (Iv (s.1 : Int)), (Pt b15 o16), (Fl r19), (Iv s.2), (Fl (FloatKind.f32.nearest s.2)), (Bo (fcmp .neq (ford .f32 (cf .f32 r19) (cf .f32 (FloatKind.f32.nearest s.2))))), (Iv s.2), (u4 20), Ud]) rfl rfl (does_move (u := (Iv s.2)) (ev rfl)) rfl ?_
      refine q_is (l' := [(.slice p_a L_a.length q_a), (Iv s.2), Ud, Ud, (u4 4), (Iv (s.1 : Int)), (Iv (s.1 : Int)), (.slice p_a L_a.length q_a), (Iv (L_a.length : Int)), (Bo (icmp .lss (s.1 : Int) (L_a.length : Int))), (u4 10), (u4 11), (.slice p_a L_a.length q_a), (Iv (s.1 : Int)), (Pt b15 o16), (Fl r19), (Iv s.2), (Fl (FloatKind.f32.nearest s.2)), (Bo (fcmp .neq (ford .f32 (cf .f32 r19) (cf .f32 (FloatKind.f32.nearest s.2))))), (Iv s.2), (Iv (s.2 + 1)), Ud]) rfl rfl (does_iarith (p := s.2) (q := 1) (r := s.2 + 1) (ev rfl) (ev rfl) (.inl ⟨rfl, (in_i64 (by omega) (by omega)).symm⟩)) rfl ?_
      refine q_is (l' := [(.slice p_a L_a.length q_a), (Iv (s.2 + 1)), Ud, Ud, (u4 4), (Iv (s.1 : Int)), (Iv (s.1 : Int)), (.slice p_a L_a.length q_a), (Iv (L_a.length : Int)), (Bo (icmp .lss (s.1 : Int) (L_a.length : Int))), (u4 10), (u4 11), (.slice p_a L_a.length q_a), (Iv (s.1 : Int)), (Pt b15 o16), (Fl r19), (Iv s.2), (Fl (FloatKind.f32.nearest s.2)), (Bo (fcmp .neq (ford .f32 (cf .f32 r19) (cf .f32 (FloatKind.f32.nearest s.2))))), (Iv s.2), (Iv (s.2 + 1)), Ud]) rfl rfl (does_assign (u := (Iv (s.2 + 1))) (ev rfl)) rfl ?_
      refine wpList_nil (hK12 _ _ ?_)
      refine wp_region_lit ?_
      refine q_is (l' := [(.slice p_a L_a.length q_a), (Iv (s.2 + 1)), Ud, Ud, (u4 4), (Iv (s.1 : Int)), (Iv (s.1 : Int)), (.slice p_a L_a.length q_a), (Iv (L_a.length : Int)), (Bo (icmp .lss (s.1 : Int) (L_a.length : Int))), (Iv (s.1 : Int)), (u4 11), (.slice p_a L_a.length q_a), (Iv (s.1 : Int)), (Pt b15 o16), (Fl r19), (Iv s.2), (Fl (FloatKind.f32.nearest s.2)), (Bo (fcmp .neq (ford .f32 (cf .f32 r19) (cf .f32 (FloatKind.f32.nearest s.2))))), (Iv s.2), (Iv (s.2 + 1)), Ud]) rfl rfl (does_move (u := (Iv (s.1 : Int))) (ev rfl)) rfl ?_
      refine q_is (l' := [(.slice p_a L_a.length q_a), (Iv (s.2 + 1)), Ud, Ud, (u4 4), (Iv (s.1 : Int)), (Iv (s.1 : Int)), (.slice p_a L_a.length q_a), (Iv (L_a.length : Int)), (Bo (icmp .lss (s.1 : Int) (L_a.length : Int))), (Iv (s.1 : Int)), (Iv ((s.1 : Int) + 1)), (.slice p_a L_a.length q_a), (Iv (s.1 : Int)), (Pt b15 o16), (Fl r19), (Iv s.2), (Fl (FloatKind.f32.nearest s.2)), (Bo (fcmp .neq (ford .f32 (cf .f32 r19) (cf .f32 (FloatKind.f32.nearest s.2))))), (Iv s.2), (Iv (s.2 + 1)), Ud]) rfl rfl (does_iarith (p := (s.1 : Int)) (q := 1) (r := (s.1 : Int) + 1) (ev rfl) (ev rfl) (.inl ⟨rfl, (in_i64 (by omega) (by omega)).symm⟩)) rfl ?_
      refine q_is (l' := [(.slice p_a L_a.length q_a), (Iv (s.2 + 1)), Ud, Ud, (u4 4), (Iv ((s.1 : Int) + 1)), (Iv (s.1 : Int)), (.slice p_a L_a.length q_a), (Iv (L_a.length : Int)), (Bo (icmp .lss (s.1 : Int) (L_a.length : Int))), (Iv (s.1 : Int)), (Iv ((s.1 : Int) + 1)), (.slice p_a L_a.length q_a), (Iv (s.1 : Int)), (Pt b15 o16), (Fl r19), (Iv s.2), (Fl (FloatKind.f32.nearest s.2)), (Bo (fcmp .neq (ford .f32 (cf .f32 r19) (cf .f32 (FloatKind.f32.nearest s.2))))), (Iv s.2), (Iv (s.2 + 1)), Ud]) rfl rfl (does_assign (u := (Iv ((s.1 : Int) + 1))) (ev rfl)) rfl ?_
      refine wpList_nil ?_
      refine ⟨(s.1 + 1, s.2 + 1), ⟨fun t => (([(.slice p_a L_a.length q_a), (Iv (s.2 + 1)), Ud, Ud, (u4 4), (Iv ((s.1 : Int) + 1)), (Iv (s.1 : Int)), (.slice p_a L_a.length q_a), (Iv (L_a.length : Int)), (Bo (icmp .lss (s.1 : Int) (L_a.length : Int))), (Iv (s.1 : Int)), (Iv ((s.1 : Int) + 1)), (.slice p_a L_a.length q_a), (Iv (s.1 : Int)), (Pt b15 o16), (Fl r19), (Iv s.2), (Fl (FloatKind.f32.nearest s.2)), (Bo (fcmp .neq (ford .f32 (cf .f32 r19) (cf .f32 (FloatKind.f32.nearest s.2))))), (Iv s.2), (Iv (s.2 + 1)), Ud] : List Value)[t]?).getD undef, ?_, E6, ?_⟩, ?_⟩
      · first | rfl | (simp only [Nat.cast_add, Nat.cast_one, Int.natCast_add, Int.natCast_one]; rfl)
      · (try dsimp only); exact ⟨by omega, by (try dsimp only); omega⟩
      · (try dsimp only); omega
    have c11' := c11
    (try simp only [icmp, Bool.and_eq_true, Bool.or_eq_true, Bool.and_eq_false_iff, Bool.or_eq_false_iff, Bool.not_eq_true', Bool.not_eq_false', decide_eq_true_eq, decide_eq_false_iff_not, beq_iff_eq, bne_iff_ne, beq_eq_false_iff_ne, bne_eq_false_iff_eq] at c11')
    refine wp_exit ?_
    refine hK2 _ _ ?_
    refine wp_seq_k fun K22 hK22 => ?_
    refine wp_region_lit ?_
    refine q_is (l' := [(.slice p_a L_a.length q_a), (Iv s.2), Ud, Ud, (u4 4), (Iv (s.1 : Int)), (Iv (s.1 : Int)), (.slice p_a L_a.length q_a), (Iv (L_a.length : Int)), (Bo (icmp .lss (s.1 : Int) (L_a.length : Int))), (u4 10), (u4 11), (u4 12), (u4 13), (u4 14), (u4 15), (u4 16), (u4 17), (u4 18), (u4 19), (u4 20), (Iv s.2)]) rfl rfl (does_move (u := (Iv s.2)) (ev rfl)) rfl ?_
    refine q_is (l' := [(.slice p_a L_a.length q_a), (Iv s.2), Ud, Ud, (Iv s.2), (Iv (s.1 : Int)), (Iv (s.1 : Int)), (.slice p_a L_a.length q_a), (Iv (L_a.length : Int)), (Bo (icmp .lss (s.1 : Int) (L_a.length : Int))), (u4 10), (u4 11), (u4 12), (u4 13), (u4 14), (u4 15), (u4 16), (u4 17), (u4 18), (u4 19), (u4 20), (Iv s.2)]) rfl rfl (does_assign (u := (Iv s.2)) (ev rfl)) rfl ?_
    refine wpList_nil (hK22 _ _ ?_)
    refine wp_ret ?_
    refine ret_val (v := (Iv s.2)) (res_T rfl (slot rfl)) X8 ?_
    have x23 : (k + (L_a.length : Int) * 1 : Int) = s.2 := by first | omega | (rw [hn2, show s.1 = L_a.length by omega])
    exact (by first | rfl | rw [x23])

/- laws.heldGrid -/
theorem c_laws_heldGrid (a : List Value) (A_a : GridT) (k : Int) (w : World) (hv_a : RGridT w A_a a) (hm : A_a.vals = mkL fF 1 k A_a.vals.length) (h0 : 0 ≤ k) (h1 : k + (A_a.vals.length : Int) * 1 ≤ 4611686018427387904) : Gives Try.prog 13 #[(.agg a.toArray), (Iv k)] w (fun v w' => v = (Iv (k + (A_a.vals.length : Int) * 1))) := by
  obtain ⟨r1, r3, r5, r7, y9, rfl, h2, h4, h6, h8, h10⟩ := hv_a
  have hs13 := h10; have hs13l := Sl.len h10; obtain ⟨p11, q12, rfl⟩ := Sl.shape h10
  refine enter [(.agg #[(Fl r1), (Fl r3), (Fl r5), (Fl r7), (Iv A_a.x), (Iv A_a.y), (Iv A_a.z), (.slice p11 A_a.vals.length q12)]), (Iv k), Ud, Ud, Ud, Ud, Ud, Ud, Ud, Ud, Ud, Ud] Try.func13 rfl Try.ntmps13 rfl ?_
  refine wp_seq_k fun K14 hK14 => ?_
  refine wp_region_lit ?_
  refine seqd rfl rfl (does_box (u := (.agg #[(Fl r1), (Fl r3), (Fl r5), (Fl r7), (Iv A_a.x), (Iv A_a.y), (Iv A_a.z), (.slice p11 A_a.vals.length q12)])) (ev rfl)) ?_; rintro _ w19 ⟨b15, rfl, hb16, hB17, E18⟩
  have g20 : w.heap.size ≤ b15 := Nat.le_trans (Below.size (Ext.refl w)) hb16
  change Blk _ _ [(Fl r1), (Fl r3), (Fl r5), (Fl r7), (Iv A_a.x), (Iv A_a.y), (Iv A_a.z), (.slice p11 A_a.vals.length q12)] at hB17
  have X21 := Ext.gr (Ext.refl w) E18
  show wpList _ _ _ _ (fr [(.agg #[(Fl r1), (Fl r3), (Fl r5), (Fl r7), (Iv A_a.x), (Iv A_a.y), (Iv A_a.z), (.slice p11 A_a.vals.length q12)]), (Iv k), (Pt b15 0), Ud, Ud, Ud, Ud, Ud, Ud, Ud, Ud, Ud]) _
  refine q_is (l' := [(.agg #[(Fl r1), (Fl r3), (Fl r5), (Fl r7), (Iv A_a.x), (Iv A_a.y), (Iv A_a.z), (.slice p11 A_a.vals.length q12)]), (Iv k), (Pt b15 0), Ud, (Iv 0), Ud, Ud, Ud, Ud, Ud, Ud, Ud]) rfl rfl (does_assign (u := (Iv 0)) (ev rfl)) rfl ?_
  refine wpList_nil (hK14 _ _ ?_)
  refine wp_seq_k fun K22 hK22 => ?_
  refine wp_region_lit ?_
  refine q_is (l' := [(.agg #[(Fl r1), (Fl r3), (Fl r5), (Fl r7), (Iv A_a.x), (Iv A_a.y), (Iv A_a.z), (.slice p11 A_a.vals.length q12)]), (Iv k), (Pt b15 0), Ud, (Iv 0), (Pt b15 7), Ud, Ud, Ud, Ud, Ud, Ud]) rfl rfl (does_fieldAddr (ev rfl) fa31_5) rfl ?_
  refine q_is (l' := [(.agg #[(Fl r1), (Fl r3), (Fl r5), (Fl r7), (Iv A_a.x), (Iv A_a.y), (Iv A_a.z), (.slice p11 A_a.vals.length q12)]), (Iv k), (Pt b15 0), Ud, (Iv 0), (Pt b15 7), (.slice p11 A_a.vals.length q12), Ud, Ud, Ud, Ud, Ud]) rfl rfl (does_load (u := (.slice p11 A_a.vals.length q12)) (ev rfl) Try.isAgg25 (Cells.at (Blk.cells hB17) 7 rfl)) rfl ?_
  refine q_is (l' := [(.agg #[(Fl r1), (Fl r3), (Fl r5), (Fl r7), (Iv A_a.x), (Iv A_a.y), (Iv A_a.z), (.slice p11 A_a.vals.length q12)]), (Iv k), (Pt b15 0), Ud, (Iv 0), (Pt b15 7), (.slice p11 A_a.vals.length q12), (Iv k), Ud, Ud, Ud, Ud]) rfl rfl (does_move (u := (Iv k)) (ev rfl)) rfl ?_
  refine seqd rfl rfl (does_call (args := #[(.slice p11 A_a.vals.length q12), (Iv k)]) cal35 (evs rfl) (c_laws_heldFloat32S (.slice p11 A_a.vals.length q12) A_a.vals k _ (Sl.ext hs13 RF.mono X21) (by assumption) (by omega) (by omega))) ?_; rintro _ w24 ⟨E23, rfl⟩
  have X25 := Ext.gr X21 E23
  show wpList _ _ _ _ (fr [(.agg #[(Fl r1), (Fl r3), (Fl r5), (Fl r7), (Iv A_a.x), (Iv A_a.y), (Iv A_a.z), (.slice p11 A_a.vals.length q12)]), (Iv k), (Pt b15 0), Ud, (Iv 0), (Pt b15 7), (.slice p11 A_a.vals.length q12), (Iv k), (Iv (k + (A_a.vals.length : Int) * 1)), Ud, Ud, Ud]) _
  refine q_is (l' := [(.agg #[(Fl r1), (Fl r3), (Fl r5), (Fl r7), (Iv A_a.x), (Iv A_a.y), (Iv A_a.z), (.slice p11 A_a.vals.length q12)]), (Iv (k + (A_a.vals.length : Int) * 1)), (Pt b15 0), Ud, (Iv 0), (Pt b15 7), (.slice p11 A_a.vals.length q12), (Iv k), (Iv (k + (A_a.vals.length : Int) * 1)), Ud, Ud, Ud]) rfl rfl (does_assign (u := (Iv (k + (A_a.vals.length : Int) * 1))) (ev rfl)) rfl ?_
  refine wpList_nil (hK22 _ _ ?_)
  refine wp_seq_k fun K26 hK26 => ?_
  refine wp_seq_k fun K27 hK27 => ?_
  refine wp_region_lit ?_
  refine q_is (l' := [(.agg #[(Fl r1), (Fl r3), (Fl r5), (Fl r7), (Iv A_a.x), (Iv A_a.y), (Iv A_a.z), (.slice p11 A_a.vals.length q12)]), (Iv (k + (A_a.vals.length : Int) * 1)), (Pt b15 0), Ud, (Iv 0), (Pt b15 7), (.slice p11 A_a.vals.length q12), (Iv k), (Iv (k + (A_a.vals.length : Int) * 1)), (Iv (k + (A_a.vals.length : Int) * 1)), Ud, Ud]) rfl rfl (does_move (u := (Iv (k + (A_a.vals.length : Int) * 1))) (ev rfl)) rfl ?_
  refine q_is (l' := [(.agg #[(Fl r1), (Fl r3), (Fl r5), (Fl r7), (Iv A_a.x), (Iv A_a.y), (Iv A_a.z), (.slice p11 A_a.vals.length q12)]), (Iv (k + (A_a.vals.length : Int) * 1)), (Pt b15 0), Ud, (Iv 0), (Pt b15 7), (.slice p11 A_a.vals.length q12), (Iv k), (Iv (k + (A_a.vals.length : Int) * 1)), (Iv (k + (A_a.vals.length : Int) * 1)), (Bo (icmp .lss (k + (A_a.vals.length : Int) * 1) 0)), Ud]) rfl rfl (does_icmp (p := k + (A_a.vals.length : Int) * 1) (q := 0) (.inr (.inr (.inl rfl))) (ev rfl) (ev rfl)) rfl ?_
  refine wpList_nil (hK27 _ _ ?_)
  refine wp_cond_split (t := icmp .lss (k + (A_a.vals.length : Int) * 1) 0) (ev rfl) (fun c28 => ?_) (fun c28 => ?_)
  · have c28' := c28
    (try simp only [icmp, Bool.and_eq_true, Bool.or_eq_true, Bool.and_eq_false_iff, Bool.or_eq_false_iff, Bool.not_eq_true', Bool.not_eq_false', decide_eq_true_eq, decide_eq_false_iff_not, beq_iff_eq, bne_iff_ne, beq_eq_false_iff_ne, bne_eq_false_iff_eq] at c28')
    exfalso; omega
  have c28' := c28
  (try simp only [icmp, Bool.and_eq_true, Bool.or_eq_true, Bool.and_eq_false_iff, Bool.or_eq_false_iff, Bool.not_eq_true', Bool.not_eq_false', decide_eq_true_eq, decide_eq_false_iff_not, beq_iff_eq, bne_iff_ne, beq_eq_false_iff_ne, bne_eq_false_iff_eq] at c28')
  refine wp_skip (hK26 _ _ ?_)
  refine wp_seq_k fun K29 hK29 => ?_
  refine wp_region_lit ?_
  refine q_is (l' := [(.agg #[(Fl r1), (Fl r3), (Fl r5), (Fl r7), (Iv A_a.x), (Iv A_a.y), (Iv A_a.z), (.slice p11 A_a.vals.length q12)]), (Iv (k + (A_a.vals.length : Int) * 1)), (Pt b15 0), Ud, (Iv 0), (Pt b15 7), (.slice p11 A_a.vals.length q12), (Iv k), (Iv (k + (A_a.vals.length : Int) * 1)), (Iv (k + (A_a.vals.length : Int) * 1)), (Bo (icmp .lss (k + (A_a.vals.length : Int) * 1) 0)), (Iv (k + (A_a.vals.length : Int) * 1))]) rfl rfl (does_move (u := (Iv (k + (A_a.vals.length : Int) * 1))) (ev rfl)) rfl ?_
  refine q_is (l' := [(.agg #[(Fl r1), (Fl r3), (Fl r5), (Fl r7), (Iv A_a.x), (Iv A_a.y), (Iv A_a.z), (.slice p11 A_a.vals.length q12)]), (Iv (k + (A_a.vals.length : Int) * 1)), (Pt b15 0), Ud, (Iv (k + (A_a.vals.length : Int) * 1)), (Pt b15 7), (.slice p11 A_a.vals.length q12), (Iv k), (Iv (k + (A_a.vals.length : Int) * 1)), (Iv (k + (A_a.vals.length : Int) * 1)), (Bo (icmp .lss (k + (A_a.vals.length : Int) * 1) 0)), (Iv (k + (A_a.vals.length : Int) * 1))]) rfl rfl (does_assign (u := (Iv (k + (A_a.vals.length : Int) * 1))) (ev rfl)) rfl ?_
  refine wpList_nil (hK29 _ _ ?_)
  refine wp_ret ?_
  refine ret_val (v := (Iv (k + (A_a.vals.length : Int) * 1))) (res_T rfl (slot rfl)) X25 ?_
  try simp only [h2, h4, h6, h8] at c28
  have x30 : (k + (A_a.vals.length : Int) * 1 : Int) = (k + (A_a.vals.length : Int) * 1) := by first | rfl | omega
  exact (by first | rfl | rw [x30])

/- laws.FnExactHalveGrid -/
theorem c_laws_FnExactHalveGrid (g : List Value) (A_g : GridT) (w : World) (hv_g : RGridT w A_g g) : Gives Try.prog 3 #[(.agg g.toArray)] w (fun v w' => v = (Bo true)) := by
  obtain ⟨r1, r3, r5, r7, y9, rfl, h2, h4, h6, h8, h10⟩ := hv_g
  have hs13 := h10; have hs13l := Sl.len h10; obtain ⟨p11, q12, rfl⟩ := Sl.shape h10
  have hgl := halR_len A_g
  refine enter [(.agg #[(Fl r1), (Fl r3), (Fl r5), (Fl r7), (Iv A_g.x), (Iv A_g.y), (Iv A_g.z), (.slice p11 A_g.vals.length q12)]), Ud, Ud, Ud, Ud, Ud, Ud, Ud, Ud, Ud, Ud, Ud, Ud, Ud, Ud, Ud, Ud, Ud, Ud, Ud, Ud, Ud, Ud, Ud, Ud, Ud, Ud, Ud, Ud, Ud, Ud, Ud, Ud, Ud, Ud, Ud, Ud, Ud, Ud, Ud, Ud, Ud, Ud, Ud, Ud, Ud, Ud, Ud, Ud, Ud, Ud, Ud, Ud, Ud, Ud, Ud, Ud, Ud, Ud, Ud, Ud, Ud, Ud, Ud, Ud, Ud, Ud, Ud, Ud, Ud, Ud, Ud, Ud, Ud, Ud, Ud, Ud, Ud, Ud, Ud, Ud, Ud, Ud, Ud, Ud, Ud, Ud, Ud, Ud, Ud, Ud, Ud, Ud, Ud, Ud, Ud] Try.func3 rfl Try.ntmps3 rfl ?_
  refine wp_seq_k fun K14 hK14 => ?_
  refine wp_region_lit ?_
  refine seqd rfl rfl (does_box (u := (.agg #[(Fl r1), (Fl r3), (Fl r5), (Fl r7), (Iv A_g.x), (Iv A_g.y), (Iv A_g.z), (.slice p11 A_g.vals.length q12)])) (ev rfl)) ?_; rintro _ w19 ⟨b15, rfl, hb16, hB17, E18⟩
  have g20 : w.heap.size ≤ b15 := Nat.le_trans (Below.size (Ext.refl w)) hb16
  change Blk _ _ [(Fl r1), (Fl r3), (Fl r5), (Fl r7), (Iv A_g.x), (Iv A_g.y), (Iv A_g.z), (.slice p11 A_g.vals.length q12)] at hB17
  have X21 := Ext.gr (Ext.refl w) E18
  show wpList _ _ _ _ (fr [(.agg #[(Fl r1), (Fl r3), (Fl r5), (Fl r7), (Iv A_g.x), (Iv A_g.y), (Iv A_g.z), (.slice p11 A_g.vals.length q12)]), (Pt b15 0), Ud, Ud, Ud, Ud, Ud, Ud, Ud, Ud, Ud, Ud, Ud, Ud, Ud, Ud, Ud, Ud, Ud, Ud, Ud, Ud, Ud, Ud, Ud, Ud, Ud, Ud, Ud, Ud, Ud, Ud, Ud, Ud, Ud, Ud, Ud, Ud, Ud, Ud, Ud, Ud, Ud, Ud, Ud, Ud, Ud, Ud, Ud, Ud, Ud, Ud, Ud, Ud, Ud, Ud, Ud, Ud, Ud, Ud, Ud, Ud, Ud, Ud, Ud, Ud, Ud, Ud, Ud, Ud, Ud, Ud, Ud, Ud, Ud, Ud, Ud, Ud, Ud, Ud, Ud, Ud, Ud, Ud, Ud, Ud, Ud, Ud, Ud, Ud, Ud, Ud, Ud, Ud, Ud, Ud]) _
  refine q_is rfl rfl (does_assign (u := (Bo false)) (ev rfl)) (by dsimp only [List.set]; try rfl) ?_
  refine wpList_nil (hK14 _ _ ?_)
  refine wp_seq_k fun K22 hK22 => ?_
  refine wp_region_lit ?_
  refine q_is rfl rfl (does_assign (u := (Iv 1048576)) (ev rfl)) (by dsimp only [List.set]; try rfl) ?_
  refine wpList_nil (hK22 _ _ ?_)
  refine wp_seq_k fun K23 hK23 => ?_
  refine wp_region_lit ?_
  refine q_is rfl rfl (does_loadAgg (cs := [(Fl r1), (Fl r3), (Fl r5), (Fl r7), (Iv A_g.x), (Iv A_g.y), (Iv A_g.z), (.slice p11 A_g.vals.length q12)]) (ev rfl) Try.isAgg27 Try.sizeOf27 (Blk.cells hB17) rfl) (by dsimp only [List.set]; try rfl) ?_
  refine q_is rfl rfl (does_move (u := (Iv 1048576)) (ev rfl)) (by dsimp only [List.set]; try rfl) ?_
  refine seqd rfl rfl (does_call (args := #[(.agg #[(Fl r1), (Fl r3), (Fl r5), (Fl r7), (Iv A_g.x), (Iv A_g.y), (Iv A_g.z), (.slice p11 A_g.vals.length q12)]), (Iv 1048576)]) cal7 (evs rfl) (c_laws_szGrid [(Fl r1), (Fl r3), (Fl r5), (Fl r7), (Iv A_g.x), (Iv A_g.y), (Iv A_g.z), (.slice p11 A_g.vals.length q12)] A_g 1048576 _ ⟨r1, r3, r5, r7, (.slice p11 A_g.vals.length q12), rfl, h2, h4, h6, h8, (Sl.ext hs13 RF.mono X21)⟩ (by omega) (by omega))) ?_; rintro _ w25 ⟨E24, ⟨i26, rfl, h27⟩⟩
  have X28 := Ext.gr X21 E24
  show wpList _ _ _ _ (fr [(.agg #[(Fl r1), (Fl r3), (Fl r5), (Fl r7), (Iv A_g.x), (Iv A_g.y), (Iv A_g.z), (.slice p11 A_g.vals.length q12)]), (Pt b15 0), (Bo false), (Iv 1048576), Ud, Ud, Ud, Ud, Ud, Ud, Ud, Ud, Ud, Ud, (.agg #[(Fl r1), (Fl r3), (Fl r5), (Fl r7), (Iv A_g.x), (Iv A_g.y), (Iv A_g.z), (.slice p11 A_g.vals.length q12)]), (Iv 1048576), (Iv i26), Ud, Ud, Ud, Ud, Ud, Ud, Ud, Ud, Ud, Ud, Ud, Ud, Ud, Ud, Ud, Ud, Ud, Ud, Ud, Ud, Ud, Ud, Ud, Ud, Ud, Ud, Ud, Ud, Ud, Ud, Ud, Ud, Ud, Ud, Ud, Ud, Ud, Ud, Ud, Ud, Ud, Ud, Ud, Ud, Ud, Ud, Ud, Ud, Ud, Ud, Ud, Ud, Ud, Ud, Ud, Ud, Ud, Ud, Ud, Ud, Ud, Ud, Ud, Ud, Ud, Ud, Ud, Ud, Ud, Ud, Ud, Ud, Ud, Ud, Ud, Ud, Ud, Ud, Ud]) _
  refine q_is rfl rfl (does_assign (u := (Iv i26)) (ev rfl)) (by dsimp only [List.set]; try rfl) ?_
  refine wpList_nil (hK23 _ _ ?_)
  refine wp_seq_k fun K29 hK29 => ?_
  refine wp_seq_k fun K30 hK30 => ?_
  refine wp_region_lit ?_
  refine q_is rfl rfl (does_move (u := (Iv i26)) (ev rfl)) (by dsimp only [List.set]; try rfl) ?_
  refine q_is rfl rfl (does_icmp (p := i26) (q := 0) (.inr (.inr (.inl rfl))) (ev rfl) (ev rfl)) (by dsimp only [List.set]; try rfl) ?_
  refine wpList_nil (hK30 _ _ ?_)
  refine wp_cond_split (t := icmp .lss i26 0) (ev rfl) (fun c31 => ?_) (fun c31 => ?_)
  · have c31' := c31
    (try simp only [sameG_self, bne_self_eq_false] at c31')
    (try simp only [icmp, Bool.and_eq_true, Bool.or_eq_true, Bool.and_eq_false_iff, Bool.or_eq_false_iff, Bool.not_eq_true', Bool.not_eq_false', decide_eq_true_eq, decide_eq_false_iff_not, beq_iff_eq, bne_iff_ne, beq_eq_false_iff_ne, bne_eq_false_iff_eq] at c31')
    refine wp_seq_k fun K32 hK32 => ?_
    refine wp_region_lit ?_
    refine q_is rfl rfl (does_assign (u := (Bo true)) (ev rfl)) (by dsimp only [List.set]; try rfl) ?_
    refine wpList_nil (hK32 _ _ ?_)
    refine wp_ret ?_
    dsimp only [Exit.then, Exit.inBlock]
    refine ret_val (v := (Bo true)) (res_T rfl (slot rfl)) X28 ?_
    try simp only [h2, h4, h6, h8, sameG_self, bne_self_eq_false] at c31
    exact rfl
  have c31' := c31
  (try simp only [sameG_self, bne_self_eq_false] at c31')
  (try simp only [icmp, Bool.and_eq_true, Bool.or_eq_true, Bool.and_eq_false_iff, Bool.or_eq_false_iff, Bool.not_eq_true', Bool.not_eq_false', decide_eq_true_eq, decide_eq_false_iff_not, beq_iff_eq, bne_iff_ne, beq_eq_false_iff_ne, bne_eq_false_iff_eq] at c31')
  refine wp_skip (hK29 _ _ ?_)
  refine wp_seq_k fun K33 hK33 => ?_
  refine wp_region_lit ?_
  refine q_is rfl rfl (does_loadAgg (cs := [(Fl r1), (Fl r3), (Fl r5), (Fl r7), (Iv A_g.x), (Iv A_g.y), (Iv A_g.z), (.slice p11 A_g.vals.length q12)]) (ev rfl) Try.isAgg27 Try.sizeOf27 (Blk.cells (hB17.ext E24)) rfl) (by dsimp only [List.set]; try rfl) ?_
  refine seqd rfl rfl (does_call (args := #[(.agg #[(Fl r1), (Fl r3), (Fl r5), (Fl r7), (Iv A_g.x), (Iv A_g.y), (Iv A_g.z), (.slice p11 A_g.vals.length q12)])]) cal9 (evs rfl) (c_laws_toGrid [(Fl r1), (Fl r3), (Fl r5), (Fl r7), (Iv A_g.x), (Iv A_g.y), (Iv A_g.z), (.slice p11 A_g.vals.length q12)] A_g _ ⟨r1, r3, r5, r7, (.slice p11 A_g.vals.length q12), rfl, h2, h4, h6, h8, (Sl.ext hs13 RF.mono X28)⟩ (by omega))) ?_; rintro _ w35 ⟨E34, ⟨cs37, Lw38, rfl, hh36, hw39⟩⟩
  have X40 := Ext.gr X28 E34
  have n41 : b15 < w25.heap.size := Blk.lt (hB17.ext E24)
  obtain ⟨r42, r44, r46, r48, y50, rfl, h43, h45, h47, h49, h51⟩ := hh36.get
  have h51l := Sl.len h51; obtain ⟨p52, q53, rfl⟩ := Sl.shape h51
  have hh54 : Hang w25.heap.size w35 (fun u => Sl RF 1 u (.slice p52 A_g.vals.length q53) A_g.vals) := fun u hu => by obtain ⟨_, _, _, _, _, hq, _, _, _, _, _⟩ := hh36 u hu; cases hq; assumption
  have hw55 : WL 1 w25.heap.size w35 Lw38 (.slice p52 A_g.vals.length q53) A_g.vals.length := hw39
  show wpList _ _ _ _ (fr [(.agg #[(Fl r1), (Fl r3), (Fl r5), (Fl r7), (Iv A_g.x), (Iv A_g.y), (Iv A_g.z), (.slice p11 A_g.vals.length q12)]), (Pt b15 0), (Bo false), (Iv i26), Ud, Ud, Ud, Ud, Ud, Ud, Ud, Ud, Ud, Ud, (.agg #[(Fl r1), (Fl r3), (Fl r5), (Fl r7), (Iv A_g.x), (Iv A_g.y), (Iv A_g.z), (.slice p11 A_g.vals.length q12)]), (Iv 1048576), (Iv i26), (Iv i26), (Bo (icmp .lss i26 0)), Ud, (.agg #[(Fl r1), (Fl r3), (Fl r5), (Fl r7), (Iv A_g.x), (Iv A_g.y), (Iv A_g.z), (.slice p11 A_g.vals.length q12)]), (.agg #[(Fl r42), (Fl r44), (Fl r46), (Fl r48), (Iv A_g.x), (Iv A_g.y), (Iv A_g.z), (.slice p52 A_g.vals.length q53)]), Ud, Ud, Ud, Ud, Ud, Ud, Ud, Ud, Ud, Ud, Ud, Ud, Ud, Ud, Ud, Ud, Ud, Ud, Ud, Ud, Ud, Ud, Ud, Ud, Ud, Ud, Ud, Ud, Ud, Ud, Ud, Ud, Ud, Ud, Ud, Ud, Ud, Ud, Ud, Ud, Ud, Ud, Ud, Ud, Ud, Ud, Ud, Ud, Ud, Ud, Ud, Ud, Ud, Ud, Ud, Ud, Ud, Ud, Ud, Ud, Ud, Ud, Ud, Ud, Ud, Ud, Ud, Ud, Ud, Ud, Ud, Ud, Ud, Ud]) _
  refine seqd rfl rfl (does_call (args := #[(.agg #[(Fl r42), (Fl r44), (Fl r46), (Fl r48), (Iv A_g.x), (Iv A_g.y), (Iv A_g.z), (.slice p52 A_g.vals.length q53)])]) cal8 (evs rfl) (c_spec_HalveGrid [(Fl r42), (Fl r44), (Fl r46), (Fl r48), (Iv A_g.x), (Iv A_g.y), (Iv A_g.z), (.slice p52 A_g.vals.length q53)] A_g _ ⟨r42, r44, r46, r48, (.slice p52 A_g.vals.length q53), rfl, h43, h45, h47, h49, hh54.get⟩)) ?_; rintro _ w57 ⟨E56, ⟨cs59, rfl, hh58⟩⟩
  have X60 := Ext.gr X40 E56
  have n61 : b15 < w35.heap.size := Blk.lt ((hB17.ext E24).ext E34)
  obtain ⟨r62, r64, r66, r68, y70, rfl, h63, h65, h67, h69, h71⟩ := hh58.get
  have h71l := Sl.len h71; obtain ⟨p72, q73, rfl⟩ := Sl.shape h71
  have hh74 : Hang w35.heap.size w57 (fun u => Sl RF 1 u (.slice p72 (((halR A_g).vals).length) q73) ((halR A_g).vals)) := fun u hu => by obtain ⟨_, _, _, _, _, hq, _, _, _, _, _⟩ := hh58 u hu; cases hq; assumption
  show wpList _ _ _ _ (fr [(.agg #[(Fl r1), (Fl r3), (Fl r5), (Fl r7), (Iv A_g.x), (Iv A_g.y), (Iv A_g.z), (.slice p11 A_g.vals.length q12)]), (Pt b15 0), (Bo false), (Iv i26), Ud, Ud, Ud, Ud, Ud, Ud, Ud, Ud, Ud, Ud, (.agg #[(Fl r1), (Fl r3), (Fl r5), (Fl r7), (Iv A_g.x), (Iv A_g.y), (Iv A_g.z), (.slice p11 A_g.vals.length q12)]), (Iv 1048576), (Iv i26), (Iv i26), (Bo (icmp .lss i26 0)), Ud, (.agg #[(Fl r1), (Fl r3), (Fl r5), (Fl r7), (Iv A_g.x), (Iv A_g.y), (Iv A_g.z), (.slice p11 A_g.vals.length q12)]), (.agg #[(Fl r42), (Fl r44), (Fl r46), (Fl r48), (Iv A_g.x), (Iv A_g.y), (Iv A_g.z), (.slice p52 A_g.vals.length q53)]), (.tuple #[(.agg #[(Fl r62), (Fl r64), (Fl r66), (Fl r68), (Iv ((halR A_g).x)), (Iv ((halR A_g).y)), (Iv ((halR A_g).z)), (.slice p72 (((halR A_g).vals).length) q73)]), (Bo (halOk A_g))]), Ud, Ud, Ud, Ud, Ud, Ud, Ud, Ud, Ud, Ud, Ud, Ud, Ud, Ud, Ud, Ud, Ud, Ud, Ud, Ud, Ud, Ud, Ud, Ud, Ud, Ud, Ud, Ud, Ud, Ud, Ud, Ud, Ud, Ud, Ud, Ud, Ud, Ud, Ud, Ud, Ud, Ud, Ud, Ud, Ud, Ud, Ud, Ud, Ud, Ud, Ud, Ud, Ud, Ud, Ud, Ud, Ud, Ud, Ud, Ud, Ud, Ud, Ud, Ud, Ud, Ud, Ud, Ud, Ud, Ud, Ud, Ud, Ud]) _
  refine q_is rfl rfl (does_move (u := (.tuple #[(.agg #[(Fl r62), (Fl r64), (Fl r66), (Fl r68), (Iv ((halR A_g).x)), (Iv ((halR A_g).y)), (Iv ((halR A_g).z)), (.slice p72 (((halR A_g).vals).length) q73)]), (Bo (halOk A_g))])) (ev rfl)) (by dsimp only [List.set]; try rfl) ?_
  refine q_is rfl rfl (does_extract (vs := #[(.agg #[(Fl r62), (Fl r64), (Fl r66), (Fl r68), (Iv ((halR A_g).x)), (Iv ((halR A_g).y)), (Iv ((halR A_g).z)), (.slice p72 (((halR A_g).vals).length) q73)]), (Bo (halOk A_g))]) (u := (.agg #[(Fl r62), (Fl r64), (Fl r66), (Fl r68), (Iv ((halR A_g).x)), (Iv ((halR A_g).y)), (Iv ((halR A_g).z)), (.slice p72 (((halR A_g).vals).length) q73)])) (ev rfl) rfl) (by dsimp only [List.set]; try rfl) ?_
  refine q_is rfl rfl (does_extract (vs := #[(.agg #[(Fl r62), (Fl r64), (Fl r66), (Fl r68), (Iv ((halR A_g).x)), (Iv ((halR A_g).y)), (Iv ((halR A_g).z)), (.slice p72 (((halR A_g).vals).length) q73)]), (Bo (halOk A_g))]) (u := (Bo (halOk A_g))) (ev rfl) rfl) (by dsimp only [List.set]; try rfl) ?_
  refine seqd rfl rfl (does_alloc z31) ?_; rintro _ w79 ⟨b75, rfl, hb76, hB77, E78⟩
  have n80 : b15 < b75 := Nat.lt_of_lt_of_le (Blk.lt (((hB17.ext E24).ext E34).ext E56)) hb76
  have g81 : w.heap.size ≤ b75 := Nat.le_trans (Below.size X60) hb76
  change Blk _ _ [(Fl 0), (Fl 0), (Fl 0), (Fl 0), (Iv 0), (Iv 0), (Iv 0), (.slice none 0 0)] at hB77
  have X82 := Ext.gr X60 E78
  show wpList _ _ _ _ (fr [(.agg #[(Fl r1), (Fl r3), (Fl r5), (Fl r7), (Iv A_g.x), (Iv A_g.y), (Iv A_g.z), (.slice p11 A_g.vals.length q12)]), (Pt b15 0), (Bo false), (Iv i26), (Pt b75 0), Ud, Ud, Ud, Ud, Ud, Ud, Ud, Ud, Ud, (.agg #[(Fl r1), (Fl r3), (Fl r5), (Fl r7), (Iv A_g.x), (Iv A_g.y), (Iv A_g.z), (.slice p11 A_g.vals.length q12)]), (Iv 1048576), (Iv i26), (Iv i26), (Bo (icmp .lss i26 0)), (.tuple #[(.agg #[(Fl r62), (Fl r64), (Fl r66), (Fl r68), (Iv ((halR A_g).x)), (Iv ((halR A_g).y)), (Iv ((halR A_g).z)), (.slice p72 (((halR A_g).vals).length) q73)]), (Bo (halOk A_g))]), (.agg #[(Fl r1), (Fl r3), (Fl r5), (Fl r7), (Iv A_g.x), (Iv A_g.y), (Iv A_g.z), (.slice p11 A_g.vals.length q12)]), (.agg #[(Fl r42), (Fl r44), (Fl r46), (Fl r48), (Iv A_g.x), (Iv A_g.y), (Iv A_g.z), (.slice p52 A_g.vals.length q53)]), (.tuple #[(.agg #[(Fl r62), (Fl r64), (Fl r66), (Fl r68), (Iv ((halR A_g).x)), (Iv ((halR A_g).y)), (Iv ((halR A_g).z)), (.slice p72 (((halR A_g).vals).length) q73)]), (Bo (halOk A_g))]), (.agg #[(Fl r62), (Fl r64), (Fl r66), (Fl r68), (Iv ((halR A_g).x)), (Iv ((halR A_g).y)), (Iv ((halR A_g).z)), (.slice p72 (((halR A_g).vals).length) q73)]), (Bo (halOk A_g)), Ud, Ud, Ud, Ud, Ud, Ud, Ud, Ud, Ud, Ud, Ud, Ud, Ud, Ud, Ud, Ud, Ud, Ud, Ud, Ud, Ud, Ud, Ud, Ud, Ud, Ud, Ud, Ud, Ud, Ud, Ud, Ud, Ud, Ud, Ud, Ud, Ud, Ud, Ud, Ud, Ud, Ud, Ud, Ud, Ud, Ud, Ud, Ud, Ud, Ud, Ud, Ud, Ud, Ud, Ud, Ud, Ud, Ud, Ud, Ud, Ud, Ud, Ud, Ud, Ud, Ud, Ud, Ud, Ud, Ud, Ud]) _
  refine seqn rfl rfl (does_store (n := 8) (cs := [(Fl 0), (Fl 0), (Fl 0), (Fl 0), (Iv 0), (Iv 0), (Iv 0), (.slice none 0 0)]) (u := (.agg #[(Fl r62), (Fl r64), (Fl r66), (Fl r68), (Iv ((halR A_g).x)), (Iv ((halR A_g).y)), (Iv ((halR A_g).z)), (.slice p72 (((halR A_g).vals).length) q73)])) (ev rfl) (ev rfl) Try.sizeOf31 rfl hB77 (Nat.le_of_ble_eq_true rfl) rfl) ?_; rintro _ w85 ⟨rfl, W83, hB84⟩
  change Blk _ _ [(Fl r62), (Fl r64), (Fl r66), (Fl r68), (Iv ((halR A_g).x)), (Iv ((halR A_g).y)), (Iv ((halR A_g).z)), (.slice p72 (((halR A_g).vals).length) q73)] at hB84
  have X86 := Below.wr X82 W83 g81
  refine q_is rfl rfl (does_assign (u := (Bo (halOk A_g))) (ev rfl)) (by dsimp only [List.set]; try rfl) ?_
  refine wpList_nil (hK33 _ _ ?_)
  refine wp_seq_k fun K87 hK87 => ?_
  refine wp_region_lit ?_
  refine q_is rfl rfl (does_loadAgg (cs := [(Fl r1), (Fl r3), (Fl r5), (Fl r7), (Iv A_g.x), (Iv A_g.y), (Iv A_g.z), (.slice p11 A_g.vals.length q12)]) (ev rfl) Try.isAgg27 Try.sizeOf27 (Blk.cells (((((hB17.ext E24).ext E34).ext E56).ext E78).wr W83 (Nat.ne_of_lt n80))) rfl) (by dsimp only [List.set]; try rfl) ?_
  refine seqd rfl rfl (does_call (args := #[(.agg #[(Fl r1), (Fl r3), (Fl r5), (Fl r7), (Iv A_g.x), (Iv A_g.y), (Iv A_g.z), (.slice p11 A_g.vals.length q12)])]) cal9 (evs rfl) (c_laws_toGrid [(Fl r1), (Fl r3), (Fl r5), (Fl r7), (Iv A_g.x), (Iv A_g.y), (Iv A_g.z), (.slice p11 A_g.vals.length q12)] A_g _ ⟨r1, r3, r5, r7, (.slice p11 A_g.vals.length q12), rfl, h2, h4, h6, h8, (Sl.ext hs13 RF.mono X86)⟩ (by omega))) ?_; rintro _ w89 ⟨E88, ⟨cs91, Lw92, rfl, hh90, hw93⟩⟩
  have X94 := Ext.gr X86 E88
  have n95 : b15 < w85.heap.size := Blk.lt (((((hB17.ext E24).ext E34).ext E56).ext E78).wr W83 (Nat.ne_of_lt n80))
  have n96 : b75 < w85.heap.size := Blk.lt hB84
  obtain ⟨r97, r99, r101, r103, y105, rfl, h98, h100, h102, h104, h106⟩ := hh90.get
  have h106l := Sl.len h106; obtain ⟨p107, q108, rfl⟩ := Sl.shape h106
  have hh109 : Hang w85.heap.size w89 (fun u => Sl RF 1 u (.slice p107 A_g.vals.length q108) A_g.vals) := fun u hu => by obtain ⟨_, _, _, _, _, hq, _, _, _, _, _⟩ := hh90 u hu; cases hq; assumption
  have hw110 : WL 1 w85.heap.size w89 Lw92 (.slice p107 A_g.vals.length q108) A_g.vals.length := hw93
  show wpList _ _ _ _ (fr [(.agg #[(Fl r1), (Fl r3), (Fl r5), (Fl r7), (Iv A_g.x), (Iv A_g.y), (Iv A_g.z), (.slice p11 A_g.vals.length q12)]), (Pt b15 0), (Bo false), (Iv i26), (Pt b75 0), (Bo (halOk A_g)), Ud, Ud, Ud, Ud, Ud, Ud, Ud, Ud, (.agg #[(Fl r1), (Fl r3), (Fl r5), (Fl r7), (Iv A_g.x), (Iv A_g.y), (Iv A_g.z), (.slice p11 A_g.vals.length q12)]), (Iv 1048576), (Iv i26), (Iv i26), (Bo (icmp .lss i26 0)), (.tuple #[(.agg #[(Fl r62), (Fl r64), (Fl r66), (Fl r68), (Iv ((halR A_g).x)), (Iv ((halR A_g).y)), (Iv ((halR A_g).z)), (.slice p72 (((halR A_g).vals).length) q73)]), (Bo (halOk A_g))]), (.agg #[(Fl r1), (Fl r3), (Fl r5), (Fl r7), (Iv A_g.x), (Iv A_g.y), (Iv A_g.z), (.slice p11 A_g.vals.length q12)]), (.agg #[(Fl r42), (Fl r44), (Fl r46), (Fl r48), (Iv A_g.x), (Iv A_g.y), (Iv A_g.z), (.slice p52 A_g.vals.length q53)]), (.tuple #[(.agg #[(Fl r62), (Fl r64), (Fl r66), (Fl r68), (Iv ((halR A_g).x)), (Iv ((halR A_g).y)), (Iv ((halR A_g).z)), (.slice p72 (((halR A_g).vals).length) q73)]), (Bo (halOk A_g))]), (.agg #[(Fl r62), (Fl r64), (Fl r66), (Fl r68), (Iv ((halR A_g).x)), (Iv ((halR A_g).y)), (Iv ((halR A_g).z)), (.slice p72 (((halR A_g).vals).length) q73)]), (Bo (halOk A_g)), (.agg #[(Fl r1), (Fl r3), (Fl r5), (Fl r7), (Iv A_g.x), (Iv A_g.y), (Iv A_g.z), (.slice p11 A_g.vals.length q12)]), (.agg #[(Fl r97), (Fl r99), (Fl r101), (Fl r103), (Iv A_g.x), (Iv A_g.y), (Iv A_g.z), (.slice p107 A_g.vals.length q108)]), Ud, Ud, Ud, Ud, Ud, Ud, Ud, Ud, Ud, Ud, Ud, Ud, Ud, Ud, Ud, Ud, Ud, Ud, Ud, Ud, Ud, Ud, Ud, Ud, Ud, Ud, Ud, Ud, Ud, Ud, Ud, Ud, Ud, Ud, Ud, Ud, Ud, Ud, Ud, Ud, Ud, Ud, Ud, Ud, Ud, Ud, Ud, Ud, Ud, Ud, Ud, Ud, Ud, Ud, Ud, Ud, Ud, Ud, Ud, Ud, Ud, Ud, Ud, Ud, Ud, Ud, Ud, Ud, Ud]) _
  refine seqd rfl rfl (does_alloc z31) ?_; rintro _ w115 ⟨b111, rfl, hb112, hB113, E114⟩
  have n116 : b15 < b111 := Nat.lt_of_lt_of_le (Blk.lt ((((((hB17.ext E24).ext E34).ext E56).ext E78).wr W83 (Nat.ne_of_lt n80)).ext E88)) hb112
  have n117 : b75 < b111 := Nat.lt_of_lt_of_le (Blk.lt (hB84.ext E88)) hb112
  have g118 : w.heap.size ≤ b111 := Nat.le_trans (Below.size X94) hb112
  change Blk _ _ [(Fl 0), (Fl 0), (Fl 0), (Fl 0), (Iv 0), (Iv 0), (Iv 0), (.slice none 0 0)] at hB113
  have X119 := Ext.gr X94 E114
  show wpList _ _ _ _ (fr [(.agg #[(Fl r1), (Fl r3), (Fl r5), (Fl r7), (Iv A_g.x), (Iv A_g.y), (Iv A_g.z), (.slice p11 A_g.vals.length q12)]), (Pt b15 0), (Bo false), (Iv i26), (Pt b75 0), (Bo (halOk A_g)), (Pt b111 0), Ud, Ud, Ud, Ud, Ud, Ud, Ud, (.agg #[(Fl r1), (Fl r3), (Fl r5), (Fl r7), (Iv A_g.x), (Iv A_g.y), (Iv A_g.z), (.slice p11 A_g.vals.length q12)]), (Iv 1048576), (Iv i26), (Iv i26), (Bo (icmp .lss i26 0)), (.tuple #[(.agg #[(Fl r62), (Fl r64), (Fl r66), (Fl r68), (Iv ((halR A_g).x)), (Iv ((halR A_g).y)), (Iv ((halR A_g).z)), (.slice p72 (((halR A_g).vals).length) q73)]), (Bo (halOk A_g))]), (.agg #[(Fl r1), (Fl r3), (Fl r5), (Fl r7), (Iv A_g.x), (Iv A_g.y), (Iv A_g.z), (.slice p11 A_g.vals.length q12)]), (.agg #[(Fl r42), (Fl r44), (Fl r46), (Fl r48), (Iv A_g.x), (Iv A_g.y), (Iv A_g.z), (.slice p52 A_g.vals.length q53)]), (.tuple #[(.agg #[(Fl r62), (Fl r64), (Fl r66), (Fl r68), (Iv ((halR A_g).x)), (Iv ((halR A_g).y)), (Iv ((halR A_g).z)), (.slice p72 (((halR A_g).vals).length) q73)]), (Bo (halOk A_g))]), (.agg #[(Fl r62), (Fl r64), (Fl r66), (Fl r68), (Iv ((halR A_g).x)), (Iv ((halR A_g).y)), (Iv ((halR A_g).z)), (.slice p72 (((halR A_g).vals).length) q73)]), (Bo (halOk A_g)), (.agg #[(Fl r1), (Fl r3), (Fl r5), (Fl r7), (Iv A_g.x), (Iv A_g.y), (Iv A_g.z), (.slice p11 A_g.vals.length q12)]), (.agg #[(Fl r97), (Fl r99), (Fl r101), (Fl r103), (Iv A_g.x), (Iv A_g.y), (Iv A_g.z), (.slice p107 A_g.vals.length q108)]), Ud, Ud, Ud, Ud, Ud, Ud, Ud, Ud, Ud, Ud, Ud, Ud, Ud, Ud, Ud, Ud, Ud, Ud, Ud, Ud, Ud, Ud, Ud, Ud, Ud, Ud, Ud, Ud, Ud, Ud, Ud, Ud, Ud, Ud, Ud, Ud, Ud, Ud, Ud, Ud, Ud, Ud, Ud, Ud, Ud, Ud, Ud, Ud, Ud, Ud, Ud, Ud, Ud, Ud, Ud, Ud, Ud, Ud, Ud, Ud, Ud, Ud, Ud, Ud, Ud, Ud, Ud, Ud, Ud]) _
  refine seqn rfl rfl (does_store (n := 8) (cs := [(Fl 0), (Fl 0), (Fl 0), (Fl 0), (Iv 0), (Iv 0), (Iv 0), (.slice none 0 0)]) (u := (.agg #[(Fl r97), (Fl r99), (Fl r101), (Fl r103), (Iv A_g.x), (Iv A_g.y), (Iv A_g.z), (.slice p107 A_g.vals.length q108)])) (ev rfl) (ev rfl) Try.sizeOf31 rfl hB113 (Nat.le_of_ble_eq_true rfl) rfl) ?_; rintro _ w122 ⟨rfl, W120, hB121⟩
  change Blk _ _ [(Fl r97), (Fl r99), (Fl r101), (Fl r103), (Iv A_g.x), (Iv A_g.y), (Iv A_g.z), (.slice p107 A_g.vals.length q108)] at hB121
  have X123 := Below.wr X119 W120 g118
  refine wpList_nil (hK87 _ _ ?_)
  refine wp_seq_k fun K124 hK124 => ?_
  refine wp_region_lit ?_
  refine q_is rfl rfl (does_loadAgg (cs := [(Fl r97), (Fl r99), (Fl r101), (Fl r103), (Iv A_g.x), (Iv A_g.y), (Iv A_g.z), (.slice p107 A_g.vals.length q108)]) (ev rfl) Try.isAgg31 Try.sizeOf31 (Blk.cells hB121) rfl) (by dsimp only [List.set]; try rfl) ?_
  refine seqd rfl rfl (does_call (args := #[(.agg #[(Fl r97), (Fl r99), (Fl r101), (Fl r103), (Iv A_g.x), (Iv A_g.y), (Iv A_g.z), (.slice p107 A_g.vals.length q108)])]) cal10 (evs rfl) (c_impl_HalveGrid [(Fl r97), (Fl r99), (Fl r101), (Fl r103), (Iv A_g.x), (Iv A_g.y), (Iv A_g.z), (.slice p107 A_g.vals.length q108)] A_g _ ⟨r97, r99, r101, r103, (.slice p107 A_g.vals.length q108), rfl, h98, h100, h102, h104, (hh109 _ (((Same.refl _ _).ext E114).wr W120 (.inr (Nat.le_trans (Below.size (Ext.refl _)) hb112))))⟩)) ?_; rintro _ w126 ⟨E125, ⟨cs128, Lw129, rfl, hh127, hw130⟩⟩
  have X131 := Ext.gr X123 E125
  have n132 : b15 < w122.heap.size := Blk.lt ((((((((hB17.ext E24).ext E34).ext E56).ext E78).wr W83 (Nat.ne_of_lt n80)).ext E88).ext E114).wr W120 (Nat.ne_of_lt n116))
  have n133 : b75 < w122.heap.size := Blk.lt (((hB84.ext E88).ext E114).wr W120 (Nat.ne_of_lt n117))
  have n134 : b111 < w122.heap.size := Blk.lt hB121
  obtain ⟨r135, r137, r139, r141, y143, rfl, h136, h138, h140, h142, h144⟩ := hh127.get
  have h144l := Sl.len h144; obtain ⟨p145, q146, rfl⟩ := Sl.shape h144
  have hh147 : Hang w122.heap.size w126 (fun u => Sl RF 1 u (.slice p145 (((halR A_g).vals).length) q146) ((halR A_g).vals)) := fun u hu => by obtain ⟨_, _, _, _, _, hq, _, _, _, _, _⟩ := hh127 u hu; cases hq; assumption
  have hw148 : WL 1 w122.heap.size w126 Lw129 (.slice p145 (((halR A_g).vals).length) q146) ((halR A_g).vals).length := hw130
  show wpList _ _ _ _ (fr [(.agg #[(Fl r1), (Fl r3), (Fl r5), (Fl r7), (Iv A_g.x), (Iv A_g.y), (Iv A_g.z), (.slice p11 A_g.vals.length q12)]), (Pt b15 0), (Bo false), (Iv i26), (Pt b75 0), (Bo (halOk A_g)), (Pt b111 0), Ud, Ud, Ud, Ud, Ud, Ud, Ud, (.agg #[(Fl r1), (Fl r3), (Fl r5), (Fl r7), (Iv A_g.x), (Iv A_g.y), (Iv A_g.z), (.slice p11 A_g.vals.length q12)]), (Iv 1048576), (Iv i26), (Iv i26), (Bo (icmp .lss i26 0)), (.tuple #[(.agg #[(Fl r62), (Fl r64), (Fl r66), (Fl r68), (Iv ((halR A_g).x)), (Iv ((halR A_g).y)), (Iv ((halR A_g).z)), (.slice p72 (((halR A_g).vals).length) q73)]), (Bo (halOk A_g))]), (.agg #[(Fl r1), (Fl r3), (Fl r5), (Fl r7), (Iv A_g.x), (Iv A_g.y), (Iv A_g.z), (.slice p11 A_g.vals.length q12)]), (.agg #[(Fl r42), (Fl r44), (Fl r46), (Fl r48), (Iv A_g.x), (Iv A_g.y), (Iv A_g.z), (.slice p52 A_g.vals.length q53)]), (.tuple #[(.agg #[(Fl r62), (Fl r64), (Fl r66), (Fl r68), (Iv ((halR A_g).x)), (Iv ((halR A_g).y)), (Iv ((halR A_g).z)), (.slice p72 (((halR A_g).vals).length) q73)]), (Bo (halOk A_g))]), (.agg #[(Fl r62), (Fl r64), (Fl r66), (Fl r68), (Iv ((halR A_g).x)), (Iv ((halR A_g).y)), (Iv ((halR A_g).z)), (.slice p72 (((halR A_g).vals).length) q73)]), (Bo (halOk A_g)), (.agg #[(Fl r1), (Fl r3), (Fl r5), (Fl r7), (Iv A_g.x), (Iv A_g.y), (Iv A_g.z), (.slice p11 A_g.vals.length q12)]), (.agg #[(Fl r97), (Fl r99), (Fl r101), (Fl r103), (Iv A_g.x), (Iv A_g.y), (Iv A_g.z), (.slice p107 A_g.vals.length q108)]), Ud, (.agg #[(Fl r97), (Fl r99), (Fl r101), (Fl r103), (Iv A_g.x), (Iv A_g.y), (Iv A_g.z), (.slice p107 A_g.vals.length q108)]), (.tuple #[(.agg #[(Fl r135), (Fl r137), (Fl r139), (Fl r141), (Iv ((halR A_g).x)), (Iv ((halR A_g).y)), (Iv ((halR A_g).z)), (.slice p145 (((halR A_g).vals).length) q146)]), (Bo (halOk A_g))]), Ud, Ud, Ud, Ud, Ud, Ud, Ud, Ud, Ud, Ud, Ud, Ud, Ud, Ud, Ud, Ud, Ud, Ud, Ud, Ud, Ud, Ud, Ud, Ud, Ud, Ud, Ud, Ud, Ud, Ud, Ud, Ud, Ud, Ud, Ud, Ud, Ud, Ud, Ud, Ud, Ud, Ud, Ud, Ud, Ud, Ud, Ud, Ud, Ud, Ud, Ud, Ud, Ud, Ud, Ud, Ud, Ud, Ud, Ud, Ud, Ud, Ud, Ud, Ud, Ud, Ud]) _
  refine q_is rfl rfl (does_move (u := (.tuple #[(.agg #[(Fl r135), (Fl r137), (Fl r139), (Fl r141), (Iv ((halR A_g).x)), (Iv ((halR A_g).y)), (Iv ((halR A_g).z)), (.slice p145 (((halR A_g).vals).length) q146)]), (Bo (halOk A_g))])) (ev rfl)) (by dsimp only [List.set]; try rfl) ?_
  refine q_is rfl rfl (does_extract (vs := #[(.agg #[(Fl r135), (Fl r137), (Fl r139), (Fl r141), (Iv ((halR A_g).x)), (Iv ((halR A_g).y)), (Iv ((halR A_g).z)), (.slice p145 (((halR A_g).vals).length) q146)]), (Bo (halOk A_g))]) (u := (.agg #[(Fl r135), (Fl r137), (Fl r139), (Fl r141), (Iv ((halR A_g).x)), (Iv ((halR A_g).y)), (Iv ((halR A_g).z)), (.slice p145 (((halR A_g).vals).length) q146)])) (ev rfl) rfl) (by dsimp only [List.set]; try rfl) ?_
  refine q_is rfl rfl (does_extract (vs := #[(.agg #[(Fl r135), (Fl r137), (Fl r139), (Fl r141), (Iv ((halR A_g).x)), (Iv ((halR A_g).y)), (Iv ((halR A_g).z)), (.slice p145 (((halR A_g).vals).length) q146)]), (Bo (halOk A_g))]) (u := (Bo (halOk A_g))) (ev rfl) rfl) (by dsimp only [List.set]; try rfl) ?_
  refine seqd rfl rfl (does_alloc z31) ?_; rintro _ w153 ⟨b149, rfl, hb150, hB151, E152⟩
  have n154 : b15 < b149 := Nat.lt_of_lt_of_le (Blk.lt (((((((((hB17.ext E24).ext E34).ext E56).ext E78).wr W83 (Nat.ne_of_lt n80)).ext E88).ext E114).wr W120 (Nat.ne_of_lt n116)).ext E125)) hb150
  have n155 : b75 < b149 := Nat.lt_of_lt_of_le (Blk.lt ((((hB84.ext E88).ext E114).wr W120 (Nat.ne_of_lt n117)).ext E125)) hb150
  have n156 : b111 < b149 := Nat.lt_of_lt_of_le (Blk.lt (hB121.ext E125)) hb150
  have g157 : w.heap.size ≤ b149 := Nat.le_trans (Below.size X131) hb150
  change Blk _ _ [(Fl 0), (Fl 0), (Fl 0), (Fl 0), (Iv 0), (Iv 0), (Iv 0), (.slice none 0 0)] at hB151
  have X158 := Ext.gr X131 E152
  show wpList _ _ _ _ (fr [(.agg #[(Fl r1), (Fl r3), (Fl r5), (Fl r7), (Iv A_g.x), (Iv A_g.y), (Iv A_g.z), (.slice p11 A_g.vals.length q12)]), (Pt b15 0), (Bo false), (Iv i26), (Pt b75 0), (Bo (halOk A_g)), (Pt b111 0), (Pt b149 0), Ud, Ud, Ud, Ud, Ud, Ud, (.agg #[(Fl r1), (Fl r3), (Fl r5), (Fl r7), (Iv A_g.x), (Iv A_g.y), (Iv A_g.z), (.slice p11 A_g.vals.length q12)]), (Iv 1048576), (Iv i26), (Iv i26), (Bo (icmp .lss i26 0)), (.tuple #[(.agg #[(Fl r62), (Fl r64), (Fl r66), (Fl r68), (Iv ((halR A_g).x)), (Iv ((halR A_g).y)), (Iv ((halR A_g).z)), (.slice p72 (((halR A_g).vals).length) q73)]), (Bo (halOk A_g))]), (.agg #[(Fl r1), (Fl r3), (Fl r5), (Fl r7), (Iv A_g.x), (Iv A_g.y), (Iv A_g.z), (.slice p11 A_g.vals.length q12)]), (.agg #[(Fl r42), (Fl r44), (Fl r46), (Fl r48), (Iv A_g.x), (Iv A_g.y), (Iv A_g.z), (.slice p52 A_g.vals.length q53)]), (.tuple #[(.agg #[(Fl r62), (Fl r64), (Fl r66), (Fl r68), (Iv ((halR A_g).x)), (Iv ((halR A_g).y)), (Iv ((halR A_g).z)), (.slice p72 (((halR A_g).vals).length) q73)]), (Bo (halOk A_g))]), (.agg #[(Fl r62), (Fl r64), (Fl r66), (Fl r68), (Iv ((halR A_g).x)), (Iv ((halR A_g).y)), (Iv ((halR A_g).z)), (.slice p72 (((halR A_g).vals).length) q73)]), (Bo (halOk A_g)), (.agg #[(Fl r1), (Fl r3), (Fl r5), (Fl r7), (Iv A_g.x), (Iv A_g.y), (Iv A_g.z), (.slice p11 A_g.vals.length q12)]), (.agg #[(Fl r97), (Fl r99), (Fl r101), (Fl r103), (Iv A_g.x), (Iv A_g.y), (Iv A_g.z), (.slice p107 A_g.vals.length q108)]), (.tuple #[(.agg #[(Fl r135), (Fl r137), (Fl r139), (Fl r141), (Iv ((halR A_g).x)), (Iv ((halR A_g).y)), (Iv ((halR A_g).z)), (.slice p145 (((halR A_g).vals).length) q146)]), (Bo (halOk A_g))]), (.agg #[(Fl r97), (Fl r99), (Fl r101), (Fl r103), (Iv A_g.x), (Iv A_g.y), (Iv A_g.z), (.slice p107 A_g.vals.length q108)]), (.tuple #[(.agg #[(Fl r135), (Fl r137), (Fl r139), (Fl r141), (Iv ((halR A_g).x)), (Iv ((halR A_g).y)), (Iv ((halR A_g).z)), (.slice p145 (((halR A_g).vals).length) q146)]), (Bo (halOk A_g))]), (.agg #[(Fl r135), (Fl r137), (Fl r139), (Fl r141), (Iv ((halR A_g).x)), (Iv ((halR A_g).y)), (Iv ((halR A_g).z)), (.slice p145 (((halR A_g).vals).length) q146)]), (Bo (halOk A_g)), Ud, Ud, Ud, Ud, Ud, Ud, Ud, Ud, Ud, Ud, Ud, Ud, Ud, Ud, Ud, Ud, Ud, Ud, Ud, Ud, Ud, Ud, Ud, Ud, Ud, Ud, Ud, Ud, Ud, Ud, Ud, Ud, Ud, Ud, Ud, Ud, Ud, Ud, Ud, Ud, Ud, Ud, Ud, Ud, Ud, Ud, Ud, Ud, Ud, Ud, Ud, Ud, Ud, Ud, Ud, Ud, Ud, Ud, Ud, Ud, Ud, Ud, Ud, Ud]) _
  refine seqn rfl rfl (does_store (n := 8) (cs := [(Fl 0), (Fl 0), (Fl 0), (Fl 0), (Iv 0), (Iv 0), (Iv 0), (.slice none 0 0)]) (u := (.agg #[(Fl r135), (Fl r137), (Fl r139), (Fl r141), (Iv ((halR A_g).x)), (Iv ((halR A_g).y)), (Iv ((halR A_g).z)), (.slice p145 (((halR A_g).vals).length) q146)])) (ev rfl) (ev rfl) Try.sizeOf31 rfl hB151 (Nat.le_of_ble_eq_true rfl) rfl) ?_; rintro _ w161 ⟨rfl, W159, hB160⟩
  change Blk _ _ [(Fl r135), (Fl r137), (Fl r139), (Fl r141), (Iv ((halR A_g).x)), (Iv ((halR A_g).y)), (Iv ((halR A_g).z)), (.slice p145 (((halR A_g).vals).length) q146)] at hB160
  have X162 := Below.wr X158 W159 g157
  refine q_is rfl rfl (does_assign (u := (Bo (halOk A_g))) (ev rfl)) (by dsimp only [List.set]; try rfl) ?_
  refine wpList_nil (hK124 _ _ ?_)
  refine wp_seq_k fun K163 hK163 => ?_
  refine wp_seq_k fun K164 hK164 => ?_
  obtain ⟨β1, hβ1⟩ : ∃ b : Bool, b = (sameG (halR A_g) (halR A_g)) := ⟨_, rfl⟩
  obtain ⟨β2, hβ2⟩ : ∃ b : Bool, b = ((halOk A_g) != (halOk A_g)) := ⟨_, rfl⟩
  refine region_text (
    [Fact.pure [] (fun v => v = (.agg #[(Fl r135), (Fl r137), (Fl r139), (Fl r141), (Iv ((halR A_g).x)), (Iv ((halR A_g).y)), (Iv ((halR A_g).z)), (.slice p145 (((halR A_g).vals).length) q146)])),
    Fact.pure [] (fun v => v = (.agg #[(Fl r62), (Fl r64), (Fl r66), (Fl r68), (Iv ((halR A_g).x)), (Iv ((halR A_g).y)), (Iv ((halR A_g).z)), (.slice p72 (((halR A_g).vals).length) q73)])),
    Fact.pure [32, 33] (fun v => v = (Bo β1)),
    Fact.pure [34] (fun v => v = (Bo (!β1))),
    Fact.pure [35] (fun v => v = (Bo (!β1))),
    Fact.pure [36] (fun v => (!β1) = false → v = (Bo (halOk A_g))),
    Fact.pure [36] (fun v => (!β1) = false → v = (Bo (halOk A_g))),
    Fact.pure [37, 38, 36] (fun v => (!β1) = false → v = (Bo β2)),
    Fact.pure [36, 39] (fun v => v = (Bo ((!β1) || β2)))]) (by simp [Fact.pure, Fact.mem]) ?_
  refine RW_d _ rfl (fun v => by dsimp only [List.set]; try rfl) (fun u hu hF => ?_) (fun v165 => ?_)
  · clear hF
    refine doesG_un rfl ?_
    refine (does_loadAgg (cs := [(Fl r135), (Fl r137), (Fl r139), (Fl r141), (Iv ((halR A_g).x)), (Iv ((halR A_g).y)), (Iv ((halR A_g).z)), (.slice p145 (((halR A_g).vals).length) q146)]) (ev rfl) Try.isAgg31 Try.sizeOf31 (Blk.cells (hB160.ext hu)) rfl).mono ?_; rintro _ _ ⟨rfl, rfl⟩
    exact ⟨rfl, Ext.refl _⟩
  refine RW_d _ rfl (fun v => by dsimp only [List.set]; try rfl) (fun u hu hF => ?_) (fun v166 => ?_)
  · clear hF
    refine doesG_un rfl ?_
    refine (does_loadAgg (cs := [(Fl r62), (Fl r64), (Fl r66), (Fl r68), (Iv ((halR A_g).x)), (Iv ((halR A_g).y)), (Iv ((halR A_g).z)), (.slice p72 (((halR A_g).vals).length) q73)]) (ev rfl) Try.isAgg31 Try.sizeOf31 (Blk.cells (((((((hB84.ext E88).ext E114).wr W120 (Nat.ne_of_lt n117)).ext E125).ext E152).wr W159 (Nat.ne_of_lt n155)).ext hu)) rfl).mono ?_; rintro _ _ ⟨rfl, rfl⟩
    exact ⟨rfl, Ext.refl _⟩
  refine RW_d _ rfl (fun v => by dsimp only [List.set]; try rfl) (fun u hu hF => ?_) (fun v167 => ?_)
  · have h32_ : v165 = (.agg #[(Fl r135), (Fl r137), (Fl r139), (Fl r141), (Iv ((halR A_g).x)), (Iv ((halR A_g).y)), (Iv ((halR A_g).z)), (.slice p145 (((halR A_g).vals).length) q146)]) := hF.1
    have h33_ : v166 = (.agg #[(Fl r62), (Fl r64), (Fl r66), (Fl r68), (Iv ((halR A_g).x)), (Iv ((halR A_g).y)), (Iv ((halR A_g).z)), (.slice p72 (((halR A_g).vals).length) q73)]) := hF.2.1
    clear hF
    refine doesG_un rfl ?_
    obtain rfl := h32_
    obtain rfl := h33_
    refine (does_call (args := #[(.agg #[(Fl r135), (Fl r137), (Fl r139), (Fl r141), (Iv ((halR A_g).x)), (Iv ((halR A_g).y)), (Iv ((halR A_g).z)), (.slice p145 (((halR A_g).vals).length) q146)]), (.agg #[(Fl r62), (Fl r64), (Fl r66), (Fl r68), (Iv ((halR A_g).x)), (Iv ((halR A_g).y)), (Iv ((halR A_g).z)), (.slice p72 (((halR A_g).vals).length) q73)])]) cal11 (evs rfl) (c_laws_eqGrid [(Fl r135), (Fl r137), (Fl r139), (Fl r141), (Iv ((halR A_g).x)), (Iv ((halR A_g).y)), (Iv ((halR A_g).z)), (.slice p145 (((halR A_g).vals).length) q146)] (halR A_g) [(Fl r62), (Fl r64), (Fl r66), (Fl r68), (Iv ((halR A_g).x)), (Iv ((halR A_g).y)), (Iv ((halR A_g).z)), (.slice p72 (((halR A_g).vals).length) q73)] (halR A_g) _ ⟨r135, r137, r139, r141, (.slice p145 (((halR A_g).vals).length) q146), rfl, h136, h138, h140, h142, (Sl.ext (hh147 _ (((Same.refl _ _).ext E152).wr W159 (.inr (Nat.le_trans (Below.size (Ext.refl _)) hb150)))) RF.mono hu)⟩ ⟨r62, r64, r66, r68, (.slice p72 (((halR A_g).vals).length) q73), rfl, h63, h65, h67, h69, (Sl.ext (hh74 _ (((((((((Same.refl _ _).ext E78).wr W83 (.inr (Nat.le_trans (Below.size (Ext.refl _)) hb76))).ext E88).ext E114).wr W120 (.inr (Nat.le_trans (Below.size (Ext.gr (Below.wr (Ext.gr (Ext.refl _) E78) W83 (Nat.le_trans (Below.size (Ext.refl _)) hb76)) E88)) hb112))).ext E125).ext E152).wr W159 (.inr (Nat.le_trans (Below.size (Ext.gr (Below.wr (Ext.gr (Ext.gr (Below.wr (Ext.gr (Ext.refl _) E78) W83 (Nat.le_trans (Below.size (Ext.refl _)) hb76)) E88) E114) W120 (Nat.le_trans (Below.size (Ext.gr (Below.wr (Ext.gr (Ext.refl _) E78) W83 (Nat.le_trans (Below.size (Ext.refl _)) hb76)) E88)) hb112)) E125)) hb150)))) RF.mono hu)⟩)).mono ?_; rintro v u' ⟨hx, hv⟩
    exact ⟨hv.trans (by simp only [hβ1]), hx⟩
  refine RW_d _ rfl (fun v => by dsimp only [List.set]; try rfl) (fun u hu hF => ?_) (fun v168 => ?_)
  · have h34_ : v167 = (Bo β1) := hF.1
    clear hF
    refine doesG_un rfl ?_
    obtain rfl := h34_
    refine (does_not (ev rfl)).mono ?_; rintro _ _ ⟨rfl, rfl⟩
    exact ⟨rfl, Ext.refl _⟩
  refine RW_d _ rfl (fun v => by dsimp only [List.set]; try rfl) (fun u hu hF => ?_) (fun v169 => ?_)
  · have h35_ : v168 = (Bo (!β1)) := hF.1
    clear hF
    refine doesG_un rfl ?_
    obtain rfl := h35_
    refine (does_move (u := (Bo (!β1))) (ev rfl)).mono ?_; rintro _ _ ⟨rfl, rfl⟩
    exact ⟨rfl, Ext.refl _⟩
  refine RW_d _ rfl (fun v => by dsimp only [List.set]; try rfl) (fun u hu hF => ?_) (fun v170 => ?_)
  · have h36_ : v169 = (Bo (!β1)) := hF.1
    clear hF
    obtain rfl := h36_
    refine doesG_g (b := (!β1)) rfl (yld rfl rfl) (fun hg1 => ?_) (fun hc => ⟨fun hg1 => absurd hg1 hc, Ext.refl _⟩)
    refine (does_move (u := (Bo (halOk A_g))) (ev rfl)).mono ?_; rintro _ _ ⟨rfl, rfl⟩
    exact ⟨fun _ => rfl, Ext.refl _⟩
  refine RW_d _ rfl (fun v => by dsimp only [List.set]; try rfl) (fun u hu hF => ?_) (fun v171 => ?_)
  · have h36_ : v169 = (Bo (!β1)) := hF.1
    clear hF
    obtain rfl := h36_
    refine doesG_g (b := (!β1)) rfl (yld rfl rfl) (fun hg1 => ?_) (fun hc => ⟨fun hg1 => absurd hg1 hc, Ext.refl _⟩)
    refine (does_move (u := (Bo (halOk A_g))) (ev rfl)).mono ?_; rintro _ _ ⟨rfl, rfl⟩
    exact ⟨fun _ => rfl, Ext.refl _⟩
  refine RW_d _ rfl (fun v => by dsimp only [List.set]; try rfl) (fun u hu hF => ?_) (fun v172 => ?_)
  · have h37_ : (!β1) = false → v170 = (Bo (halOk A_g)) := hF.1
    have h38_ : (!β1) = false → v171 = (Bo (halOk A_g)) := hF.2.1
    have h36_ : v169 = (Bo (!β1)) := hF.2.2.1
    clear hF
    obtain rfl := h36_
    refine doesG_g (b := (!β1)) rfl (yld rfl rfl) (fun hg1 => ?_) (fun hc => ⟨fun hg1 => absurd hg1 hc, Ext.refl _⟩)
    obtain rfl := h37_ hg1
    obtain rfl := h38_ hg1
    refine (does_bne (p := (halOk A_g)) (q := (halOk A_g)) Try.underlying4 (ev rfl) (ev rfl)).mono ?_; rintro _ _ ⟨rfl, rfl⟩
    exact ⟨fun _ => (by first | rfl | (show _ = _; simp only [hβ2])), Ext.refl _⟩
  refine RW_d _ rfl (fun v => by dsimp only [List.set]; try rfl) (fun u hu hF => ?_) (fun v173 => ?_)
  · have h36_ : v169 = (Bo (!β1)) := hF.1
    have h39_ : (!β1) = false → v172 = (Bo β2) := hF.2.1
    clear hF
    refine doesG_un rfl ?_
    skip
    obtain rfl := h36_
    refine (does_pick (b := (!β1)) (ev rfl) (ev rfl) (ev rfl)).mono ?_; rintro _ _ ⟨rfl, rfl⟩; refine ⟨?_, Ext.refl _⟩; skip
    cases hbb : (!β1) <;> simp [hbb] at h39_ ⊢
    all_goals (first | rfl | (subst h39_; rfl) | simp_all)
  refine RW_fin ?_; intro w174 E175 hP176
  obtain ⟨⟨⟨⟨⟨⟨⟨⟨⟨-, -⟩, -⟩, -⟩, -⟩, -⟩, -⟩, -⟩, -⟩, q177⟩ := hP176
  have X178 := Ext.gr X162 E175
  have q177 : v173 = (Bo ((!β1) || β2)) := q177
  obtain rfl := q177
  show wpList _ _ _ _ (fr [(.agg #[(Fl r1), (Fl r3), (Fl r5), (Fl r7), (Iv A_g.x), (Iv A_g.y), (Iv A_g.z), (.slice p11 A_g.vals.length q12)]), (Pt b15 0), (Bo false), (Iv i26), (Pt b75 0), (Bo (halOk A_g)), (Pt b111 0), (Pt b149 0), (Bo (halOk A_g)), Ud, Ud, Ud, Ud, Ud, (.agg #[(Fl r1), (Fl r3), (Fl r5), (Fl r7), (Iv A_g.x), (Iv A_g.y), (Iv A_g.z), (.slice p11 A_g.vals.length q12)]), (Iv 1048576), (Iv i26), (Iv i26), (Bo (icmp .lss i26 0)), (.tuple #[(.agg #[(Fl r62), (Fl r64), (Fl r66), (Fl r68), (Iv ((halR A_g).x)), (Iv ((halR A_g).y)), (Iv ((halR A_g).z)), (.slice p72 (((halR A_g).vals).length) q73)]), (Bo (halOk A_g))]), (.agg #[(Fl r1), (Fl r3), (Fl r5), (Fl r7), (Iv A_g.x), (Iv A_g.y), (Iv A_g.z), (.slice p11 A_g.vals.length q12)]), (.agg #[(Fl r42), (Fl r44), (Fl r46), (Fl r48), (Iv A_g.x), (Iv A_g.y), (Iv A_g.z), (.slice p52 A_g.vals.length q53)]), (.tuple #[(.agg #[(Fl r62), (Fl r64), (Fl r66), (Fl r68), (Iv ((halR A_g).x)), (Iv ((halR A_g).y)), (Iv ((halR A_g).z)), (.slice p72 (((halR A_g).vals).length) q73)]), (Bo (halOk A_g))]), (.agg #[(Fl r62), (Fl r64), (Fl r66), (Fl r68), (Iv ((halR A_g).x)), (Iv ((halR A_g).y)), (Iv ((halR A_g).z)), (.slice p72 (((halR A_g).vals).length) q73)]), (Bo (halOk A_g)), (.agg #[(Fl r1), (Fl r3), (Fl r5), (Fl r7), (Iv A_g.x), (Iv A_g.y), (Iv A_g.z), (.slice p11 A_g.vals.length q12)]), (.agg #[(Fl r97), (Fl r99), (Fl r101), (Fl r103), (Iv A_g.x), (Iv A_g.y), (Iv A_g.z), (.slice p107 A_g.vals.length q108)]), (.tuple #[(.agg #[(Fl r135), (Fl r137), (Fl r139), (Fl r141), (Iv ((halR A_g).x)), (Iv ((halR A_g).y)), (Iv ((halR A_g).z)), (.slice p145 (((halR A_g).vals).length) q146)]), (Bo (halOk A_g))]), (.agg #[(Fl r97), (Fl r99), (Fl r101), (Fl r103), (Iv A_g.x), (Iv A_g.y), (Iv A_g.z), (.slice p107 A_g.vals.length q108)]), (.tuple #[(.agg #[(Fl r135), (Fl r137), (Fl r139), (Fl r141), (Iv ((halR A_g).x)), (Iv ((halR A_g).y)), (Iv ((halR A_g).z)), (.slice p145 (((halR A_g).vals).length) q146)]), (Bo (halOk A_g))]), (.agg #[(Fl r135), (Fl r137), (Fl r139), (Fl r141), (Iv ((halR A_g).x)), (Iv ((halR A_g).y)), (Iv ((halR A_g).z)), (.slice p145 (((halR A_g).vals).length) q146)]), (Bo (halOk A_g)), v165, v166, v167, v168, v169, v170, v171, v172, (Bo ((!β1) || β2)), Ud, Ud, Ud, Ud, Ud, Ud, Ud, Ud, Ud, Ud, Ud, Ud, Ud, Ud, Ud, Ud, Ud, Ud, Ud, Ud, Ud, Ud, Ud, Ud, Ud, Ud, Ud, Ud, Ud, Ud, Ud, Ud, Ud, Ud, Ud, Ud, Ud, Ud, Ud, Ud, Ud, Ud, Ud, Ud, Ud, Ud, Ud, Ud, Ud, Ud, Ud, Ud, Ud, Ud, Ud]) _
  refine wpList_nil (hK164 _ _ ?_)
  refine wp_cond_split (t := (!β1) || β2) (ev rfl) (fun c179 => ?_) (fun c179 => ?_)
  · have c179' := c179
    (try simp only [hβ1, hβ2, sameG_self, bne_self_eq_false] at c179')
    (try simp only [hβ1, hβ2] at c179')
    (try simp only [icmp, Bool.and_eq_true, Bool.or_eq_true, Bool.and_eq_false_iff, Bool.or_eq_false_iff, Bool.not_eq_true', Bool.not_eq_false', decide_eq_true_eq, decide_eq_false_iff_not, beq_iff_eq, bne_iff_ne, beq_eq_false_iff_ne, bne_eq_false_iff_eq] at c179')
    refine wp_seq_k fun K180 hK180 => ?_
    refine wp_region_lit ?_
    refine q_is rfl rfl (does_assign (u := (Bo false)) (ev rfl)) (by dsimp only [List.set]; try rfl) ?_
    refine wpList_nil (hK180 _ _ ?_)
    refine wp_ret ?_
    dsimp only [Exit.then, Exit.inBlock]
    refine ret_val (v := (Bo false)) (res_T rfl (slot rfl)) X178 ?_
    try simp only [h2, h4, h6, h8, h43, h45, h47, h49, h63, h65, h67, h69, h98, h100, h102, h104, h136, h138, h140, h142, hβ1, hβ2, sameG_self, bne_self_eq_false] at c31 c179
    have x181 : true = false := by first | with_reducible rfl | (exfalso; omega) | (exfalso; simp only [mkL_len] at * <;> omega) | (exfalso; rcases c179' with (hh | hh) | hh <;> first | omega | (exact Bool.noConfusion hh)) | (exfalso; rcases c179' with hh | hh <;> first | omega | (exact Bool.noConfusion hh)) | (simp only [sameG_self, bne_self_eq_false, h2, h4, h6, h8, h43, h45, h47, h49, h63, h65, h67, h69, h98, h100, h102, h104, h136, h138, h140, h142, hβ1, hβ2, c31, c179]; done) | (simp [sameG_self, bne_self_eq_false, h2, h4, h6, h8, h43, h45, h47, h49, h63, h65, h67, h69, h98, h100, h102, h104, h136, h138, h140, h142, hβ1, hβ2, c31, c179]; done) | (simp_all; done) | (exfalso; simp_all; done)
    exact (by first | rfl | rw [x181])
  have c179' := c179
  (try simp only [hβ1, hβ2, sameG_self, bne_self_eq_false] at c179')
  (try simp only [hβ1, hβ2] at c179')
  (try simp only [icmp, Bool.and_eq_true, Bool.or_eq_true, Bool.and_eq_false_iff, Bool.or_eq_false_iff, Bool.not_eq_true', Bool.not_eq_false', decide_eq_true_eq, decide_eq_false_iff_not, beq_iff_eq, bne_iff_ne, beq_eq_false_iff_ne, bne_eq_false_iff_eq] at c179')
  refine wp_skip (hK163 _ _ ?_)
  refine wp_seq_k fun K182 hK182 => ?_
  refine wp_seq_k fun K183 hK183 => ?_
  refine region_draw (
    [Fact.pure [] (fun v => v = (.agg #[(Fl r97), (Fl r99), (Fl r101), (Fl r103), (Iv A_g.x), (Iv A_g.y), (Iv A_g.z), (.slice p107 A_g.vals.length q108)])),
    Fact.pure [] (fun v => v = (.agg #[(Fl r1), (Fl r3), (Fl r5), (Fl r7), (Iv A_g.x), (Iv A_g.y), (Iv A_g.z), (.slice p11 A_g.vals.length q12)])),
    Fact.mem [42] (fun v w' => ∃ cs_1 : List Value, ∃ Lw_2 : List Nat, v = (.agg cs_1.toArray) ∧ Hang w174.heap.size w' (fun u => RGridT u A_g cs_1) ∧ WL 1 w174.heap.size w' Lw_2 (cellN cs_1 7) A_g.vals.length) (by rintro v w1 w2 hx ⟨z1, z2, rfl, k0, k1⟩; exact ⟨_, _, rfl, (k0.ext hx), (k1.same (Same.of_ext hx))⟩),
    Fact.pure [41, 43] (fun v => v = (Bo (sameG A_g A_g))),
    Fact.pure [44] (fun v => v = (Bo (!(sameG A_g A_g))))]) mixed (by kernel_rfl) (by intro _ _ d _ _ h; cases d <;> exact h) ?_
  obtain ⟨w184, hw186⟩ : ∃ w', w' = World.drew w174 := ⟨_, rfl⟩; rw [← hw186]; have E185 : Ext w174 w184 := by rw [hw186]; exact Ext.draw _
  clear hw186
  have X187 := Ext.gr X178 E185
  refine RW_d _ rfl (fun v => by dsimp only [List.set]; try rfl) (fun u hu hF => ?_) (fun v188 => ?_)
  · clear hF
    refine doesG_un rfl ?_
    refine (does_loadAgg (cs := [(Fl r97), (Fl r99), (Fl r101), (Fl r103), (Iv A_g.x), (Iv A_g.y), (Iv A_g.z), (.slice p107 A_g.vals.length q108)]) (ev rfl) Try.isAgg31 Try.sizeOf31 (Blk.cells ((((((hB121.ext E125).ext E152).wr W159 (Nat.ne_of_lt n156)).ext E175).ext E185).ext hu)) rfl).mono ?_; rintro _ _ ⟨rfl, rfl⟩
    exact ⟨rfl, Ext.refl _⟩
  refine RW_d _ rfl (fun v => by dsimp only [List.set]; try rfl) (fun u hu hF => ?_) (fun v189 => ?_)
  · clear hF
    refine doesG_un rfl ?_
    refine (does_loadAgg (cs := [(Fl r1), (Fl r3), (Fl r5), (Fl r7), (Iv A_g.x), (Iv A_g.y), (Iv A_g.z), (.slice p11 A_g.vals.length q12)]) (ev rfl) Try.isAgg27 Try.sizeOf27 (Blk.cells ((((((((((((((hB17.ext E24).ext E34).ext E56).ext E78).wr W83 (Nat.ne_of_lt n80)).ext E88).ext E114).wr W120 (Nat.ne_of_lt n116)).ext E125).ext E152).wr W159 (Nat.ne_of_lt n154)).ext E175).ext E185).ext hu)) rfl).mono ?_; rintro _ _ ⟨rfl, rfl⟩
    exact ⟨rfl, Ext.refl _⟩
  refine RW_d _ rfl (fun v => by dsimp only [List.set]; try rfl) (fun u hu hF => ?_) (fun v190 => ?_)
  · have h42_ : v189 = (.agg #[(Fl r1), (Fl r3), (Fl r5), (Fl r7), (Iv A_g.x), (Iv A_g.y), (Iv A_g.z), (.slice p11 A_g.vals.length q12)]) := hF.1
    clear hF
    refine doesG_un rfl ?_
    obtain rfl := h42_
    refine (does_call (args := #[(.agg #[(Fl r1), (Fl r3), (Fl r5), (Fl r7), (Iv A_g.x), (Iv A_g.y), (Iv A_g.z), (.slice p11 A_g.vals.length q12)])]) cal9 (evs rfl) (c_laws_toGrid [(Fl r1), (Fl r3), (Fl r5), (Fl r7), (Iv A_g.x), (Iv A_g.y), (Iv A_g.z), (.slice p11 A_g.vals.length q12)] A_g _ ⟨r1, r3, r5, r7, (.slice p11 A_g.vals.length q12), rfl, h2, h4, h6, h8, (Sl.ext (Sl.ext hs13 RF.mono (Ext.gr X178 E185)) RF.mono hu)⟩ (by omega))).mono ?_; rintro v u' ⟨hx, ⟨csn1, Lwn2, hv, k0, k1⟩⟩
    exact ⟨⟨csn1, Lwn2, hv, (Hang.le k0 (Nat.le_trans (Below.size E185) (Below.size hu))), (WL.le k1 (Nat.le_trans (Below.size E185) (Below.size hu)))⟩, hx⟩
  refine RW_d _ rfl (fun v => by dsimp only [List.set]; try rfl) (fun u hu hF => ?_) (fun v191 => ?_)
  · have h41_ : v188 = (.agg #[(Fl r97), (Fl r99), (Fl r101), (Fl r103), (Iv A_g.x), (Iv A_g.y), (Iv A_g.z), (.slice p107 A_g.vals.length q108)]) := hF.1
    have h43_ : ∃ cs_1 : List Value, ∃ Lw_2 : List Nat, v190 = (.agg cs_1.toArray) ∧ Hang w174.heap.size u (fun u => RGridT u A_g cs_1) ∧ WL 1 w174.heap.size u Lw_2 (cellN cs_1 7) A_g.vals.length := hF.2.1
    clear hF
    refine doesG_un rfl ?_
    obtain rfl := h41_
    obtain ⟨cs43_2, Lw43_3, rfl, hh43_1, hw43_4⟩ := h43_
    obtain ⟨r43_5, r43_7, r43_9, r43_11, y43_13, rfl, h43_6, h43_8, h43_10, h43_12, h43_14⟩ := hh43_1.get
    have hh43_14 := h43_14; obtain ⟨p43_15, q43_16, rfl⟩ := Sl.shape h43_14
    refine (does_call (args := #[(.agg #[(Fl r97), (Fl r99), (Fl r101), (Fl r103), (Iv A_g.x), (Iv A_g.y), (Iv A_g.z), (.slice p107 A_g.vals.length q108)]), (.agg #[(Fl r43_5), (Fl r43_7), (Fl r43_9), (Fl r43_11), (Iv A_g.x), (Iv A_g.y), (Iv A_g.z), (.slice p43_15 A_g.vals.length q43_16)])]) cal11 (evs rfl) (c_laws_eqGrid [(Fl r97), (Fl r99), (Fl r101), (Fl r103), (Iv A_g.x), (Iv A_g.y), (Iv A_g.z), (.slice p107 A_g.vals.length q108)] A_g [(Fl r43_5), (Fl r43_7), (Fl r43_9), (Fl r43_11), (Iv A_g.x), (Iv A_g.y), (Iv A_g.z), (.slice p43_15 A_g.vals.length q43_16)] A_g _ ⟨r97, r99, r101, r103, (.slice p107 A_g.vals.length q108), rfl, h98, h100, h102, h104, (Sl.ext (hh109 _ ((((((((Same.refl _ _).ext E114).wr W120 (.inr (Nat.le_trans (Below.size (Ext.refl _)) hb112))).ext E125).ext E152).wr W159 (.inr (Nat.le_trans (Below.size (Ext.gr (Below.wr (Ext.gr (Ext.refl _) E114) W120 (Nat.le_trans (Below.size (Ext.refl _)) hb112)) E125)) hb150))).ext E175).ext E185)) RF.mono hu)⟩ ⟨r43_5, r43_7, r43_9, r43_11, (.slice p43_15 A_g.vals.length q43_16), rfl, (by assumption), (by assumption), (by assumption), (by assumption), hh43_14⟩)).mono ?_; rintro v u' ⟨hx, hv⟩
    exact ⟨hv.trans (by simp only [h43_6, h43_8, h43_10, h43_12]), hx⟩
  refine RW_d _ rfl (fun v => by dsimp only [List.set]; try rfl) (fun u hu hF => ?_) (fun v192 => ?_)
  · have h44_ : v191 = (Bo (sameG A_g A_g)) := hF.1
    clear hF
    refine doesG_un rfl ?_
    obtain rfl := h44_
    refine (does_not (ev rfl)).mono ?_; rintro _ _ ⟨rfl, rfl⟩
    exact ⟨rfl, Ext.refl _⟩
  refine RW_fin ?_; intro w193 E194 hP195
  obtain ⟨⟨⟨⟨⟨-, -⟩, -⟩, -⟩, -⟩, q196⟩ := hP195
  have X197 := Ext.gr X187 E194
  have q196 : v192 = (Bo (!(sameG A_g A_g))) := q196
  obtain rfl := q196
  show wpList _ _ _ _ (fr [(.agg #[(Fl r1), (Fl r3), (Fl r5), (Fl r7), (Iv A_g.x), (Iv A_g.y), (Iv A_g.z), (.slice p11 A_g.vals.length q12)]), (Pt b15 0), (Bo false), (Iv i26), (Pt b75 0), (Bo (halOk A_g)), (Pt b111 0), (Pt b149 0), (Bo (halOk A_g)), Ud, Ud, Ud, Ud, Ud, (.agg #[(Fl r1), (Fl r3), (Fl r5), (Fl r7), (Iv A_g.x), (Iv A_g.y), (Iv A_g.z), (.slice p11 A_g.vals.length q12)]), (Iv 1048576), (Iv i26), (Iv i26), (Bo (icmp .lss i26 0)), (.tuple #[(.agg #[(Fl r62), (Fl r64), (Fl r66), (Fl r68), (Iv ((halR A_g).x)), (Iv ((halR A_g).y)), (Iv ((halR A_g).z)), (.slice p72 (((halR A_g).vals).length) q73)]), (Bo (halOk A_g))]), (.agg #[(Fl r1), (Fl r3), (Fl r5), (Fl r7), (Iv A_g.x), (Iv A_g.y), (Iv A_g.z), (.slice p11 A_g.vals.length q12)]), (.agg #[(Fl r42), (Fl r44), (Fl r46), (Fl r48), (Iv A_g.x), (Iv A_g.y), (Iv A_g.z), (.slice p52 A_g.vals.length q53)]), (.tuple #[(.agg #[(Fl r62), (Fl r64), (Fl r66), (Fl r68), (Iv ((halR A_g).x)), (Iv ((halR A_g).y)), (Iv ((halR A_g).z)), (.slice p72 (((halR A_g).vals).length) q73)]), (Bo (halOk A_g))]), (.agg #[(Fl r62), (Fl r64), (Fl r66), (Fl r68), (Iv ((halR A_g).x)), (Iv ((halR A_g).y)), (Iv ((halR A_g).z)), (.slice p72 (((halR A_g).vals).length) q73)]), (Bo (halOk A_g)), (.agg #[(Fl r1), (Fl r3), (Fl r5), (Fl r7), (Iv A_g.x), (Iv A_g.y), (Iv A_g.z), (.slice p11 A_g.vals.length q12)]), (.agg #[(Fl r97), (Fl r99), (Fl r101), (Fl r103), (Iv A_g.x), (Iv A_g.y), (Iv A_g.z), (.slice p107 A_g.vals.length q108)]), (.tuple #[(.agg #[(Fl r135), (Fl r137), (Fl r139), (Fl r141), (Iv ((halR A_g).x)), (Iv ((halR A_g).y)), (Iv ((halR A_g).z)), (.slice p145 (((halR A_g).vals).length) q146)]), (Bo (halOk A_g))]), (.agg #[(Fl r97), (Fl r99), (Fl r101), (Fl r103), (Iv A_g.x), (Iv A_g.y), (Iv A_g.z), (.slice p107 A_g.vals.length q108)]), (.tuple #[(.agg #[(Fl r135), (Fl r137), (Fl r139), (Fl r141), (Iv ((halR A_g).x)), (Iv ((halR A_g).y)), (Iv ((halR A_g).z)), (.slice p145 (((halR A_g).vals).length) q146)]), (Bo (halOk A_g))]), (.agg #[(Fl r135), (Fl r137), (Fl r139), (Fl r141), (Iv ((halR A_g).x)), (Iv ((halR A_g).y)), (Iv ((halR A_g).z)), (.slice p145 (((halR A_g).vals).length) q146)]), (Bo (halOk A_g)), v165, v166, v167, v168, v169, v170, v171, v172, (Bo ((!β1) || β2)), v188, v189, v190, v191, (Bo (!(sameG A_g A_g))), Ud, Ud, Ud, Ud, Ud, Ud, Ud, Ud, Ud, Ud, Ud, Ud, Ud, Ud, Ud, Ud, Ud, Ud, Ud, Ud, Ud, Ud, Ud, Ud, Ud, Ud, Ud, Ud, Ud, Ud, Ud, Ud, Ud, Ud, Ud, Ud, Ud, Ud, Ud, Ud, Ud, Ud, Ud, Ud, Ud, Ud, Ud, Ud, Ud, Ud]) _
  refine wpList_nil (hK183 _ _ ?_)
  refine wp_cond_split (t := !(sameG A_g A_g)) (ev rfl) (fun c198 => ?_) (fun c198 => ?_)
  · rw [Bool.not_eq_true'] at c198
    have c198' := c198
    (try simp only [hβ1, hβ2, sameG_self, bne_self_eq_false] at c198')
    (try simp only [hβ1, hβ2] at c198')
    (try simp only [icmp, Bool.and_eq_true, Bool.or_eq_true, Bool.and_eq_false_iff, Bool.or_eq_false_iff, Bool.not_eq_true', Bool.not_eq_false', decide_eq_true_eq, decide_eq_false_iff_not, beq_iff_eq, bne_iff_ne, beq_eq_false_iff_ne, bne_eq_false_iff_eq] at c198')
    refine wp_seq_k fun K199 hK199 => ?_
    refine wp_region_lit ?_
    refine q_is rfl rfl (does_assign (u := (Bo false)) (ev rfl)) (by dsimp only [List.set]; try rfl) ?_
    refine wpList_nil (hK199 _ _ ?_)
    refine wp_ret ?_
    dsimp only [Exit.then, Exit.inBlock]
    refine ret_val (v := (Bo false)) (res_T rfl (slot rfl)) X197 ?_
    try simp only [h2, h4, h6, h8, h43, h45, h47, h49, h63, h65, h67, h69, h98, h100, h102, h104, h136, h138, h140, h142, hβ1, hβ2, sameG_self, bne_self_eq_false] at c31 c179 c198
    have x200 : true = false := by first | with_reducible rfl | (exfalso; omega) | (exfalso; simp only [mkL_len] at * <;> omega) | (exfalso; rcases c198' with (hh | hh) | hh <;> first | omega | (exact Bool.noConfusion hh)) | (exfalso; rcases c198' with hh | hh <;> first | omega | (exact Bool.noConfusion hh)) | (simp only [sameG_self, bne_self_eq_false, h2, h4, h6, h8, h43, h45, h47, h49, h63, h65, h67, h69, h98, h100, h102, h104, h136, h138, h140, h142, hβ1, hβ2, c31, c179, c198]; done) | (simp [sameG_self, bne_self_eq_false, h2, h4, h6, h8, h43, h45, h47, h49, h63, h65, h67, h69, h98, h100, h102, h104, h136, h138, h140, h142, hβ1, hβ2, c31, c179, c198]; done) | (simp_all; done) | (exfalso; simp_all; done)
    exact (by first | rfl | rw [x200])
  rw [Bool.not_eq_false'] at c198
  have c198' := c198
  (try simp only [hβ1, hβ2, sameG_self, bne_self_eq_false] at c198')
  (try simp only [hβ1, hβ2] at c198')
  (try simp only [icmp, Bool.and_eq_true, Bool.or_eq_true, Bool.and_eq_false_iff, Bool.or_eq_false_iff, Bool.not_eq_true', Bool.not_eq_false', decide_eq_true_eq, decide_eq_false_iff_not, beq_iff_eq, bne_iff_ne, beq_eq_false_iff_ne, bne_eq_false_iff_eq] at c198')
  refine wp_skip (hK182 _ _ ?_)
  refine wp_seq_k fun K201 hK201 => ?_
  refine wp_region_lit ?_
  refine q_is rfl rfl (does_assign (u := (Iv 1)) (ev rfl)) (by dsimp only [List.set]; try rfl) ?_
  refine wpList_nil (hK201 _ _ ?_)
  refine wp_seq_k fun K202 hK202 => ?_
  refine wp_region_lit ?_
  refine q_is rfl rfl (does_loadAgg (cs := [(Fl r97), (Fl r99), (Fl r101), (Fl r103), (Iv A_g.x), (Iv A_g.y), (Iv A_g.z), (.slice p107 A_g.vals.length q108)]) (ev rfl) Try.isAgg31 Try.sizeOf31 (Blk.cells ((((((hB121.ext E125).ext E152).wr W159 (Nat.ne_of_lt n156)).ext E175).ext E185).ext E194)) rfl) (by dsimp only [List.set]; try rfl) ?_
  refine q_is rfl rfl (does_move (u := (Iv 1)) (ev rfl)) (by dsimp only [List.set]; try rfl) ?_
  refine seqd rfl rfl (does_callK (args := #[(.agg #[(Fl r97), (Fl r99), (Fl r101), (Fl r103), (Iv A_g.x), (Iv A_g.y), (Iv A_g.z), (.slice p107 A_g.vals.length q108)]), (Iv 1)]) cal12 (evs rfl) (c_laws_markGrid (Fl r97) (Fl r99) (Fl r101) (Fl r103) (Iv A_g.x) (Iv A_g.y) (Iv A_g.z) (.slice p107 A_g.vals.length q108) A_g.vals.length Lw92 w85.heap.size 1 _ (hw110.same (((((((((Same.refl _ _).ext E114).wr W120 (.inr (Nat.le_trans (Below.size (Ext.refl _)) hb112))).ext E125).ext E152).wr W159 (.inr (Nat.le_trans (Below.size (Ext.gr (Below.wr (Ext.gr (Ext.refl _) E114) W120 (Nat.le_trans (Below.size (Ext.refl _)) hb112)) E125)) hb150))).ext E175).ext E185).ext E194)) (by omega) (by first | omega | omega))) ?_; rintro _ w203 ⟨K204, rfl, hM205⟩
  have X206 := Below.kl X197 K204 (fun c hc => Nat.le_trans (Below.size (Below.wr (Ext.gr (Ext.gr (Ext.gr (Ext.gr (Ext.gr (Ext.refl _) E18) E24) E34) E56) E78) W83 g81)) (hw110.1 c hc).1) (Nat.le_refl _)
  show wpList _ _ _ _ (fr [(.agg #[(Fl r1), (Fl r3), (Fl r5), (Fl r7), (Iv A_g.x), (Iv A_g.y), (Iv A_g.z), (.slice p11 A_g.vals.length q12)]), (Pt b15 0), (Bo false), (Iv i26), (Pt b75 0), (Bo (halOk A_g)), (Pt b111 0), (Pt b149 0), (Bo (halOk A_g)), (Iv 1), Ud, Ud, Ud, Ud, (.agg #[(Fl r1), (Fl r3), (Fl r5), (Fl r7), (Iv A_g.x), (Iv A_g.y), (Iv A_g.z), (.slice p11 A_g.vals.length q12)]), (Iv 1048576), (Iv i26), (Iv i26), (Bo (icmp .lss i26 0)), (.tuple #[(.agg #[(Fl r62), (Fl r64), (Fl r66), (Fl r68), (Iv ((halR A_g).x)), (Iv ((halR A_g).y)), (Iv ((halR A_g).z)), (.slice p72 (((halR A_g).vals).length) q73)]), (Bo (halOk A_g))]), (.agg #[(Fl r1), (Fl r3), (Fl r5), (Fl r7), (Iv A_g.x), (Iv A_g.y), (Iv A_g.z), (.slice p11 A_g.vals.length q12)]), (.agg #[(Fl r42), (Fl r44), (Fl r46), (Fl r48), (Iv A_g.x), (Iv A_g.y), (Iv A_g.z), (.slice p52 A_g.vals.length q53)]), (.tuple #[(.agg #[(Fl r62), (Fl r64), (Fl r66), (Fl r68), (Iv ((halR A_g).x)), (Iv ((halR A_g).y)), (Iv ((halR A_g).z)), (.slice p72 (((halR A_g).vals).length) q73)]), (Bo (halOk A_g))]), (.agg #[(Fl r62), (Fl r64), (Fl r66), (Fl r68), (Iv ((halR A_g).x)), (Iv ((halR A_g).y)), (Iv ((halR A_g).z)), (.slice p72 (((halR A_g).vals).length) q73)]), (Bo (halOk A_g)), (.agg #[(Fl r1), (Fl r3), (Fl r5), (Fl r7), (Iv A_g.x), (Iv A_g.y), (Iv A_g.z), (.slice p11 A_g.vals.length q12)]), (.agg #[(Fl r97), (Fl r99), (Fl r101), (Fl r103), (Iv A_g.x), (Iv A_g.y), (Iv A_g.z), (.slice p107 A_g.vals.length q108)]), (.tuple #[(.agg #[(Fl r135), (Fl r137), (Fl r139), (Fl r141), (Iv ((halR A_g).x)), (Iv ((halR A_g).y)), (Iv ((halR A_g).z)), (.slice p145 (((halR A_g).vals).length) q146)]), (Bo (halOk A_g))]), (.agg #[(Fl r97), (Fl r99), (Fl r101), (Fl r103), (Iv A_g.x), (Iv A_g.y), (Iv A_g.z), (.slice p107 A_g.vals.length q108)]), (.tuple #[(.agg #[(Fl r135), (Fl r137), (Fl r139), (Fl r141), (Iv ((halR A_g).x)), (Iv ((halR A_g).y)), (Iv ((halR A_g).z)), (.slice p145 (((halR A_g).vals).length) q146)]), (Bo (halOk A_g))]), (.agg #[(Fl r135), (Fl r137), (Fl r139), (Fl r141), (Iv ((halR A_g).x)), (Iv ((halR A_g).y)), (Iv ((halR A_g).z)), (.slice p145 (((halR A_g).vals).length) q146)]), (Bo (halOk A_g)), v165, v166, v167, v168, v169, v170, v171, v172, (Bo ((!β1) || β2)), v188, v189, v190, v191, (Bo (!(sameG A_g A_g))), (.agg #[(Fl r97), (Fl r99), (Fl r101), (Fl r103), (Iv A_g.x), (Iv A_g.y), (Iv A_g.z), (.slice p107 A_g.vals.length q108)]), (Iv 1), (Iv (1 + (A_g.vals.length : Int) * 1)), Ud, Ud, Ud, Ud, Ud, Ud, Ud, Ud, Ud, Ud, Ud, Ud, Ud, Ud, Ud, Ud, Ud, Ud, Ud, Ud, Ud, Ud, Ud, Ud, Ud, Ud, Ud, Ud, Ud, Ud, Ud, Ud, Ud, Ud, Ud, Ud, Ud, Ud, Ud, Ud, Ud, Ud, Ud, Ud, Ud, Ud, Ud]) _
  refine q_is rfl rfl (does_assign (u := (Iv (1 + (A_g.vals.length : Int) * 1))) (ev rfl)) (by dsimp only [List.set]; try rfl) ?_
  refine wpList_nil (hK202 _ _ ?_)
  refine wp_seq_k fun K209 hK209 => ?_
  refine wp_seq_k fun K210 hK210 => ?_
  obtain ⟨β3, hβ3⟩ : ∃ b : Bool, b = (icmp .lss (1 + (A_g.vals.length : Int) * 1) 0) := ⟨_, rfl⟩
  obtain ⟨β4, hβ4⟩ : ∃ b : Bool, b = (sameG (halR A_g) (halR A_g)) := ⟨_, rfl⟩
  obtain ⟨β5, hβ5⟩ : ∃ b : Bool, b = ((halOk A_g) != (halOk A_g)) := ⟨_, rfl⟩
  refine region_text (
    [Fact.pure [] (fun v => v = (Iv (1 + (A_g.vals.length : Int) * 1))),
    Fact.pure [49] (fun v => v = (Bo β3)),
    Fact.pure [50] (fun v => v = (Bo β3)),
    Fact.pure [51] (fun v => β3 = false → v = (.agg #[(Fl r135), (Fl r137), (Fl r139), (Fl r141), (Iv ((halR A_g).x)), (Iv ((halR A_g).y)), (Iv ((halR A_g).z)), (.slice p145 (((halR A_g).vals).length) q146)])),
    Fact.pure [51] (fun v => β3 = false → v = (.agg #[(Fl r62), (Fl r64), (Fl r66), (Fl r68), (Iv ((halR A_g).x)), (Iv ((halR A_g).y)), (Iv ((halR A_g).z)), (.slice p72 (((halR A_g).vals).length) q73)])),
    Fact.pure [52, 53, 51] (fun v => β3 = false → v = (Bo β4)),
    Fact.pure [54, 51] (fun v => β3 = false → v = (Bo (!β4))),
    Fact.pure [51, 55] (fun v => v = (Bo (β3 || (!β4)))),
    Fact.pure [56] (fun v => v = (Bo (β3 || (!β4)))),
    Fact.pure [57] (fun v => (β3 || (!β4)) = false → v = (Bo (halOk A_g))),
    Fact.pure [57] (fun v => (β3 || (!β4)) = false → v = (Bo (halOk A_g))),
    Fact.pure [58, 59, 57] (fun v => (β3 || (!β4)) = false → v = (Bo β5)),
    Fact.pure [57, 60] (fun v => v = (Bo ((β3 || (!β4)) || β5)))]) (by simp [Fact.pure, Fact.mem]) ?_
  refine RW_d _ rfl (fun v => by dsimp only [List.set]; try rfl) (fun u hu hF => ?_) (fun v211 => ?_)
  · clear hF
    refine doesG_un rfl ?_
    refine (does_move (u := (Iv (1 + (A_g.vals.length : Int) * 1))) (ev rfl)).mono ?_; rintro _ _ ⟨rfl, rfl⟩
    exact ⟨rfl, Ext.refl _⟩
  refine RW_d _ rfl (fun v => by dsimp only [List.set]; try rfl) (fun u hu hF => ?_) (fun v212 => ?_)
  · have h49_ : v211 = (Iv (1 + (A_g.vals.length : Int) * 1)) := hF.1
    clear hF
    refine doesG_un rfl ?_
    obtain rfl := h49_
    refine (does_icmp (p := 1 + (A_g.vals.length : Int) * 1) (q := 0) (.inr (.inr (.inl rfl))) (ev rfl) (ev rfl)).mono ?_; rintro _ _ ⟨rfl, rfl⟩
    exact ⟨(by first | rfl | (show _ = _; simp only [hβ3])), Ext.refl _⟩
  refine RW_d _ rfl (fun v => by dsimp only [List.set]; try rfl) (fun u hu hF => ?_) (fun v213 => ?_)
  · have h50_ : v212 = (Bo β3) := hF.1
    clear hF
    refine doesG_un rfl ?_
    obtain rfl := h50_
    refine (does_move (u := (Bo β3)) (ev rfl)).mono ?_; rintro _ _ ⟨rfl, rfl⟩
    exact ⟨rfl, Ext.refl _⟩
  refine RW_d _ rfl (fun v => by dsimp only [List.set]; try rfl) (fun u hu hF => ?_) (fun v214 => ?_)
  · have h51_ : v213 = (Bo β3) := hF.1
    clear hF
    obtain rfl := h51_
    refine doesG_g (b := β3) rfl (yld rfl rfl) (fun hg1 => ?_) (fun hc => ⟨fun hg1 => absurd hg1 hc, Ext.refl _⟩)
    refine (does_loadAgg (cs := [(Fl r135), (Fl r137), (Fl r139), (Fl r141), (Iv ((halR A_g).x)), (Iv ((halR A_g).y)), (Iv ((halR A_g).z)), (.slice p145 (((halR A_g).vals).length) q146)]) (ev rfl) Try.isAgg31 Try.sizeOf31 (Blk.cells (((((hB160.ext E175).ext E185).ext E194).kl K204 (fun hc => absurd (Nat.lt_of_lt_of_le (hw110.1 _ hc).2 (Nat.le_trans (Nat.le_trans (Nat.le_trans (Below.size E114) (Nat.le_of_eq (Eq.symm (Wr.size W120)))) (Below.size E125)) hb150)) (Nat.lt_irrefl _))).ext hu)) rfl).mono ?_; rintro _ _ ⟨rfl, rfl⟩
    exact ⟨fun _ => rfl, Ext.refl _⟩
  refine RW_d _ rfl (fun v => by dsimp only [List.set]; try rfl) (fun u hu hF => ?_) (fun v215 => ?_)
  · have h51_ : v213 = (Bo β3) := hF.1
    clear hF
    obtain rfl := h51_
    refine doesG_g (b := β3) rfl (yld rfl rfl) (fun hg1 => ?_) (fun hc => ⟨fun hg1 => absurd hg1 hc, Ext.refl _⟩)
    refine (does_loadAgg (cs := [(Fl r62), (Fl r64), (Fl r66), (Fl r68), (Iv ((halR A_g).x)), (Iv ((halR A_g).y)), (Iv ((halR A_g).z)), (.slice p72 (((halR A_g).vals).length) q73)]) (ev rfl) Try.isAgg31 Try.sizeOf31 (Blk.cells (((((((((((hB84.ext E88).ext E114).wr W120 (Nat.ne_of_lt n117)).ext E125).ext E152).wr W159 (Nat.ne_of_lt n155)).ext E175).ext E185).ext E194).kl K204 (fun hc => absurd (hw110.1 _ hc).1 (Nat.not_le_of_lt n96))).ext hu)) rfl).mono ?_; rintro _ _ ⟨rfl, rfl⟩
    exact ⟨fun _ => rfl, Ext.refl _⟩
  refine RW_d _ rfl (fun v => by dsimp only [List.set]; try rfl) (fun u hu hF => ?_) (fun v216 => ?_)
  · have h52_ : β3 = false → v214 = (.agg #[(Fl r135), (Fl r137), (Fl r139), (Fl r141), (Iv ((halR A_g).x)), (Iv ((halR A_g).y)), (Iv ((halR A_g).z)), (.slice p145 (((halR A_g).vals).length) q146)]) := hF.1
    have h53_ : β3 = false → v215 = (.agg #[(Fl r62), (Fl r64), (Fl r66), (Fl r68), (Iv ((halR A_g).x)), (Iv ((halR A_g).y)), (Iv ((halR A_g).z)), (.slice p72 (((halR A_g).vals).length) q73)]) := hF.2.1
    have h51_ : v213 = (Bo β3) := hF.2.2.1
    clear hF
    obtain rfl := h51_
    refine doesG_g (b := β3) rfl (yld rfl rfl) (fun hg1 => ?_) (fun hc => ⟨fun hg1 => absurd hg1 hc, Ext.refl _⟩)
    obtain rfl := h52_ hg1
    obtain rfl := h53_ hg1
    refine (does_call (args := #[(.agg #[(Fl r135), (Fl r137), (Fl r139), (Fl r141), (Iv ((halR A_g).x)), (Iv ((halR A_g).y)), (Iv ((halR A_g).z)), (.slice p145 (((halR A_g).vals).length) q146)]), (.agg #[(Fl r62), (Fl r64), (Fl r66), (Fl r68), (Iv ((halR A_g).x)), (Iv ((halR A_g).y)), (Iv ((halR A_g).z)), (.slice p72 (((halR A_g).vals).length) q73)])]) cal11 (evs rfl) (c_laws_eqGrid [(Fl r135), (Fl r137), (Fl r139), (Fl r141), (Iv ((halR A_g).x)), (Iv ((halR A_g).y)), (Iv ((halR A_g).z)), (.slice p145 (((halR A_g).vals).length) q146)] (halR A_g) [(Fl r62), (Fl r64), (Fl r66), (Fl r68), (Iv ((halR A_g).x)), (Iv ((halR A_g).y)), (Iv ((halR A_g).z)), (.slice p72 (((halR A_g).vals).length) q73)] (halR A_g) _ ⟨r135, r137, r139, r141, (.slice p145 (((halR A_g).vals).length) q146), rfl, h136, h138, h140, h142, (Sl.ext (hh147 _ (((((((Same.refl _ _).ext E152).wr W159 (.inr (Nat.le_trans (Below.size (Ext.refl _)) hb150))).ext E175).ext E185).ext E194).kl K204 (fun c hc => .inl (Nat.lt_of_lt_of_le (hw110.1 c hc).2 (Nat.le_trans (Below.size E114) (Nat.le_of_eq (Eq.symm (Wr.size W120)))))))) RF.mono hu)⟩ ⟨r62, r64, r66, r68, (.slice p72 (((halR A_g).vals).length) q73), rfl, h63, h65, h67, h69, (Sl.ext (hh74 _ (((((((((((((Same.refl _ _).ext E78).wr W83 (.inr (Nat.le_trans (Below.size (Ext.refl _)) hb76))).ext E88).ext E114).wr W120 (.inr (Nat.le_trans (Below.size (Ext.gr (Below.wr (Ext.gr (Ext.refl _) E78) W83 (Nat.le_trans (Below.size (Ext.refl _)) hb76)) E88)) hb112))).ext E125).ext E152).wr W159 (.inr (Nat.le_trans (Below.size (Ext.gr (Below.wr (Ext.gr (Ext.gr (Below.wr (Ext.gr (Ext.refl _) E78) W83 (Nat.le_trans (Below.size (Ext.refl _)) hb76)) E88) E114) W120 (Nat.le_trans (Below.size (Ext.gr (Below.wr (Ext.gr (Ext.refl _) E78) W83 (Nat.le_trans (Below.size (Ext.refl _)) hb76)) E88)) hb112)) E125)) hb150))).ext E175).ext E185).ext E194).kl K204 (fun c hc => .inr (Nat.le_trans (Nat.le_trans (Below.size E78) (Nat.le_of_eq (Eq.symm (Wr.size W83)))) (hw110.1 c hc).1)))) RF.mono hu)⟩)).mono ?_; rintro v u' ⟨hx, hv⟩
    exact ⟨fun _ => hv.trans (by simp only [hβ4]), hx⟩
  refine RW_d _ rfl (fun v => by dsimp only [List.set]; try rfl) (fun u hu hF => ?_) (fun v217 => ?_)
  · have h54_ : β3 = false → v216 = (Bo β4) := hF.1
    have h51_ : v213 = (Bo β3) := hF.2.1
    clear hF
    obtain rfl := h51_
    refine doesG_g (b := β3) rfl (yld rfl rfl) (fun hg1 => ?_) (fun hc => ⟨fun hg1 => absurd hg1 hc, Ext.refl _⟩)
    obtain rfl := h54_ hg1
    refine (does_not (ev rfl)).mono ?_; rintro _ _ ⟨rfl, rfl⟩
    exact ⟨fun _ => rfl, Ext.refl _⟩
  refine RW_d _ rfl (fun v => by dsimp only [List.set]; try rfl) (fun u hu hF => ?_) (fun v218 => ?_)
  · have h51_ : v213 = (Bo β3) := hF.1
    have h55_ : β3 = false → v217 = (Bo (!β4)) := hF.2.1
    clear hF
    refine doesG_un rfl ?_
    skip
    obtain rfl := h51_
    refine (does_pick (b := β3) (ev rfl) (ev rfl) (ev rfl)).mono ?_; rintro _ _ ⟨rfl, rfl⟩; refine ⟨?_, Ext.refl _⟩; skip
    cases hbb : β3 <;> simp [hbb] at h55_ ⊢
    all_goals (first | rfl | (subst h55_; rfl) | simp_all)
  refine RW_d _ rfl (fun v => by dsimp only [List.set]; try rfl) (fun u hu hF => ?_) (fun v219 => ?_)
  · have h56_ : v218 = (Bo (β3 || (!β4))) := hF.1
    clear hF
    refine doesG_un rfl ?_
    obtain rfl := h56_
    refine (does_move (u := (Bo (β3 || (!β4)))) (ev rfl)).mono ?_; rintro _ _ ⟨rfl, rfl⟩
    exact ⟨rfl, Ext.refl _⟩
  refine RW_d _ rfl (fun v => by dsimp only [List.set]; try rfl) (fun u hu hF => ?_) (fun v220 => ?_)
  · have h57_ : v219 = (Bo (β3 || (!β4))) := hF.1
    clear hF
    obtain rfl := h57_
    refine doesG_g (b := (β3 || (!β4))) rfl (yld rfl rfl) (fun hg1 => ?_) (fun hc => ⟨fun hg1 => absurd hg1 hc, Ext.refl _⟩)
    refine (does_move (u := (Bo (halOk A_g))) (ev rfl)).mono ?_; rintro _ _ ⟨rfl, rfl⟩
    exact ⟨fun _ => rfl, Ext.refl _⟩
  refine RW_d _ rfl (fun v => by dsimp only [List.set]; try rfl) (fun u hu hF => ?_) (fun v221 => ?_)
  · have h57_ : v219 = (Bo (β3 || (!β4))) := hF.1
    clear hF
    obtain rfl := h57_
    refine doesG_g (b := (β3 || (!β4))) rfl (yld rfl rfl) (fun hg1 => ?_) (fun hc => ⟨fun hg1 => absurd hg1 hc, Ext.refl _⟩)
    refine (does_move (u := (Bo (halOk A_g))) (ev rfl)).mono ?_; rintro _ _ ⟨rfl, rfl⟩
    exact ⟨fun _ => rfl, Ext.refl _⟩
  refine RW_d _ rfl (fun v => by dsimp only [List.set]; try rfl) (fun u hu hF => ?_) (fun v222 => ?_)
  · have h58_ : (β3 || (!β4)) = false → v220 = (Bo (halOk A_g)) := hF.1
    have h59_ : (β3 || (!β4)) = false → v221 = (Bo (halOk A_g)) := hF.2.1
    have h57_ : v219 = (Bo (β3 || (!β4))) := hF.2.2.1
    clear hF
    obtain rfl := h57_
    refine doesG_g (b := (β3 || (!β4))) rfl (yld rfl rfl) (fun hg1 => ?_) (fun hc => ⟨fun hg1 => absurd hg1 hc, Ext.refl _⟩)
    obtain rfl := h58_ hg1
    obtain rfl := h59_ hg1
    refine (does_bne (p := (halOk A_g)) (q := (halOk A_g)) Try.underlying4 (ev rfl) (ev rfl)).mono ?_; rintro _ _ ⟨rfl, rfl⟩
    exact ⟨fun _ => (by first | rfl | (show _ = _; simp only [hβ5])), Ext.refl _⟩
  refine RW_d _ rfl (fun v => by dsimp only [List.set]; try rfl) (fun u hu hF => ?_) (fun v223 => ?_)
  · have h57_ : v219 = (Bo (β3 || (!β4))) := hF.1
    have h60_ : (β3 || (!β4)) = false → v222 = (Bo β5) := hF.2.1
    clear hF
    refine doesG_un rfl ?_
    skip
    obtain rfl := h57_
    refine (does_pick (b := (β3 || (!β4))) (ev rfl) (ev rfl) (ev rfl)).mono ?_; rintro _ _ ⟨rfl, rfl⟩; refine ⟨?_, Ext.refl _⟩; skip
    cases hbb : (β3 || (!β4)) <;> simp [hbb] at h60_ ⊢
    all_goals (first | rfl | (subst h60_; rfl) | simp_all)
  refine RW_fin ?_; intro w224 E225 hP226
  obtain ⟨⟨⟨⟨⟨⟨⟨⟨⟨⟨⟨⟨⟨-, -⟩, -⟩, -⟩, -⟩, -⟩, -⟩, -⟩, -⟩, -⟩, -⟩, -⟩, -⟩, q227⟩ := hP226
  have X228 := Ext.gr X206 E225
  have q227 : v223 = (Bo ((β3 || (!β4)) || β5)) := q227
  obtain rfl := q227
  show wpList _ _ _ _ (fr [(.agg #[(Fl r1), (Fl r3), (Fl r5), (Fl r7), (Iv A_g.x), (Iv A_g.y), (Iv A_g.z), (.slice p11 A_g.vals.length q12)]), (Pt b15 0), (Bo false), (Iv i26), (Pt b75 0), (Bo (halOk A_g)), (Pt b111 0), (Pt b149 0), (Bo (halOk A_g)), (Iv (1 + (A_g.vals.length : Int) * 1)), Ud, Ud, Ud, Ud, (.agg #[(Fl r1), (Fl r3), (Fl r5), (Fl r7), (Iv A_g.x), (Iv A_g.y), (Iv A_g.z), (.slice p11 A_g.vals.length q12)]), (Iv 1048576), (Iv i26), (Iv i26), (Bo (icmp .lss i26 0)), (.tuple #[(.agg #[(Fl r62), (Fl r64), (Fl r66), (Fl r68), (Iv ((halR A_g).x)), (Iv ((halR A_g).y)), (Iv ((halR A_g).z)), (.slice p72 (((halR A_g).vals).length) q73)]), (Bo (halOk A_g))]), (.agg #[(Fl r1), (Fl r3), (Fl r5), (Fl r7), (Iv A_g.x), (Iv A_g.y), (Iv A_g.z), (.slice p11 A_g.vals.length q12)]), (.agg #[(Fl r42), (Fl r44), (Fl r46), (Fl r48), (Iv A_g.x), (Iv A_g.y), (Iv A_g.z), (.slice p52 A_g.vals.length q53)]), (.tuple #[(.agg #[(Fl r62), (Fl r64), (Fl r66), (Fl r68), (Iv ((halR A_g).x)), (Iv ((halR A_g).y)), (Iv ((halR A_g).z)), (.slice p72 (((halR A_g).vals).length) q73)]), (Bo (halOk A_g))]), (.agg #[(Fl r62), (Fl r64), (Fl r66), (Fl r68), (Iv ((halR A_g).x)), (Iv ((halR A_g).y)), (Iv ((halR A_g).z)), (.slice p72 (((halR A_g).vals).length) q73)]), (Bo (halOk A_g)), (.agg #[(Fl r1), (Fl r3), (Fl r5), (Fl r7), (Iv A_g.x), (Iv A_g.y), (Iv A_g.z), (.slice p11 A_g.vals.length q12)]), (.agg #[(Fl r97), (Fl r99), (Fl r101), (Fl r103), (Iv A_g.x), (Iv A_g.y), (Iv A_g.z), (.slice p107 A_g.vals.length q108)]), (.tuple #[(.agg #[(Fl r135), (Fl r137), (Fl r139), (Fl r141), (Iv ((halR A_g).x)), (Iv ((halR A_g).y)), (Iv ((halR A_g).z)), (.slice p145 (((halR A_g).vals).length) q146)]), (Bo (halOk A_g))]), (.agg #[(Fl r97), (Fl r99), (Fl r101), (Fl r103), (Iv A_g.x), (Iv A_g.y), (Iv A_g.z), (.slice p107 A_g.vals.length q108)]), (.tuple #[(.agg #[(Fl r135), (Fl r137), (Fl r139), (Fl r141), (Iv ((halR A_g).x)), (Iv ((halR A_g).y)), (Iv ((halR A_g).z)), (.slice p145 (((halR A_g).vals).length) q146)]), (Bo (halOk A_g))]), (.agg #[(Fl r135), (Fl r137), (Fl r139), (Fl r141), (Iv ((halR A_g).x)), (Iv ((halR A_g).y)), (Iv ((halR A_g).z)), (.slice p145 (((halR A_g).vals).length) q146)]), (Bo (halOk A_g)), v165, v166, v167, v168, v169, v170, v171, v172, (Bo ((!β1) || β2)), v188, v189, v190, v191, (Bo (!(sameG A_g A_g))), (.agg #[(Fl r97), (Fl r99), (Fl r101), (Fl r103), (Iv A_g.x), (Iv A_g.y), (Iv A_g.z), (.slice p107 A_g.vals.length q108)]), (Iv 1), (Iv (1 + (A_g.vals.length : Int) * 1)), v211, v212, v213, v214, v215, v216, v217, v218, v219, v220, v221, v222, (Bo ((β3 || (!β4)) || β5)), Ud, Ud, Ud, Ud, Ud, Ud, Ud, Ud, Ud, Ud, Ud, Ud, Ud, Ud, Ud, Ud, Ud, Ud, Ud, Ud, Ud, Ud, Ud, Ud, Ud, Ud, Ud, Ud, Ud, Ud, Ud, Ud, Ud, Ud]) _
  refine wpList_nil (hK210 _ _ ?_)
  refine wp_cond_split (t := (β3 || (!β4)) || β5) (ev rfl) (fun c229 => ?_) (fun c229 => ?_)
  · have c229' := c229
    (try simp only [hβ1, hβ2, hβ3, hβ4, hβ5, sameG_self, bne_self_eq_false] at c229')
    (try simp only [hβ1, hβ2, hβ3, hβ4, hβ5] at c229')
    (try simp only [icmp, Bool.and_eq_true, Bool.or_eq_true, Bool.and_eq_false_iff, Bool.or_eq_false_iff, Bool.not_eq_true', Bool.not_eq_false', decide_eq_true_eq, decide_eq_false_iff_not, beq_iff_eq, bne_iff_ne, beq_eq_false_iff_ne, bne_eq_false_iff_eq] at c229')
    refine wp_seq_k fun K230 hK230 => ?_
    refine wp_region_lit ?_
    refine q_is rfl rfl (does_assign (u := (Bo false)) (ev rfl)) (by dsimp only [List.set]; try rfl) ?_
    refine wpList_nil (hK230 _ _ ?_)
    refine wp_ret ?_
    dsimp only [Exit.then, Exit.inBlock]
    refine ret_val (v := (Bo false)) (res_T rfl (slot rfl)) X228 ?_
    try simp only [h2, h4, h6, h8, h43, h45, h47, h49, h63, h65, h67, h69, h98, h100, h102, h104, h136, h138, h140, h142, hβ1, hβ2, hβ3, hβ4, hβ5, sameG_self, bne_self_eq_false] at c31 c179 c198 c229
    have x231 : true = false := by first | with_reducible rfl | (exfalso; omega) | (exfalso; simp only [mkL_len] at * <;> omega) | (exfalso; rcases c229' with (hh | hh) | hh <;> first | omega | (exact Bool.noConfusion hh)) | (exfalso; rcases c229' with hh | hh <;> first | omega | (exact Bool.noConfusion hh)) | (simp only [sameG_self, bne_self_eq_false, h2, h4, h6, h8, h43, h45, h47, h49, h63, h65, h67, h69, h98, h100, h102, h104, h136, h138, h140, h142, hβ1, hβ2, hβ3, hβ4, hβ5, c31, c179, c198, c229]; done) | (simp [sameG_self, bne_self_eq_false, h2, h4, h6, h8, h43, h45, h47, h49, h63, h65, h67, h69, h98, h100, h102, h104, h136, h138, h140, h142, hβ1, hβ2, hβ3, hβ4, hβ5, c31, c179, c198, c229]; done) | (simp_all; done) | (exfalso; simp_all; done)
    exact (by first | rfl | rw [x231])
  have c229' := c229
  (try simp only [hβ1, hβ2, hβ3, hβ4, hβ5, sameG_self, bne_self_eq_false] at c229')
  (try simp only [hβ1, hβ2, hβ3, hβ4, hβ5] at c229')
  (try simp only [icmp, Bool.and_eq_true, Bool.or_eq_true, Bool.and_eq_false_iff, Bool.or_eq_false_iff, Bool.not_eq_true', Bool.not_eq_false', decide_eq_true_eq, decide_eq_false_iff_not, beq_iff_eq, bne_iff_ne, beq_eq_false_iff_ne, bne_eq_false_iff_eq] at c229')
  refine wp_skip (hK209 _ _ ?_)
  refine wp_seq_k fun K232 hK232 => ?_
  refine wp_region_lit ?_
  refine q_is rfl rfl (does_assign (u := (Iv 1)) (ev rfl)) (by dsimp only [List.set]; try rfl) ?_
  refine wpList_nil (hK232 _ _ ?_)
  refine wp_seq_k fun K233 hK233 => ?_
  refine wp_region_lit ?_
  refine q_is rfl rfl (does_loadAgg (cs := [(Fl r135), (Fl r137), (Fl r139), (Fl r141), (Iv ((halR A_g).x)), (Iv ((halR A_g).y)), (Iv ((halR A_g).z)), (.slice p145 (((halR A_g).vals).length) q146)]) (ev rfl) Try.isAgg31 Try.sizeOf31 (Blk.cells (((((hB160.ext E175).ext E185).ext E194).kl K204 (fun hc => absurd (Nat.lt_of_lt_of_le (hw110.1 _ hc).2 (Nat.le_trans (Nat.le_trans (Nat.le_trans (Below.size E114) (Nat.le_of_eq (Eq.symm (Wr.size W120)))) (Below.size E125)) hb150)) (Nat.lt_irrefl _))).ext E225)) rfl) (by dsimp only [List.set]; try rfl) ?_
  refine q_is rfl rfl (does_move (u := (Iv 1)) (ev rfl)) (by dsimp only [List.set]; try rfl) ?_
  refine seqd rfl rfl (does_callK (args := #[(.agg #[(Fl r135), (Fl r137), (Fl r139), (Fl r141), (Iv ((halR A_g).x)), (Iv ((halR A_g).y)), (Iv ((halR A_g).z)), (.slice p145 (((halR A_g).vals).length) q146)]), (Iv 1)]) cal12 (evs rfl) (c_laws_markGrid (Fl r135) (Fl r137) (Fl r139) (Fl r141) (Iv ((halR A_g).x)) (Iv ((halR A_g).y)) (Iv ((halR A_g).z)) (.slice p145 (((halR A_g).vals).length) q146) ((halR A_g).vals).length Lw129 w122.heap.size 1 _ (hw148.same ((((((((Same.refl _ _).ext E152).wr W159 (.inr (Nat.le_trans (Below.size (Ext.refl _)) hb150))).ext E175).ext E185).ext E194).kl K204 (fun c hc => .inl (Nat.lt_of_lt_of_le (hw110.1 c hc).2 (Nat.le_trans (Below.size E114) (Nat.le_of_eq (Eq.symm (Wr.size W120))))))).ext E225)) (by omega) (by first | omega | omega))) ?_; rintro _ w234 ⟨K235, rfl, hM236⟩
  have X237 := Below.kl X228 K235 (fun c hc => Nat.le_trans (Below.size (Below.wr (Ext.gr (Ext.gr (Below.wr (Ext.gr (Ext.gr (Ext.gr (Ext.gr (Ext.gr (Ext.refl _) E18) E24) E34) E56) E78) W83 g81) E88) E114) W120 g118)) (hw148.1 c hc).1) (Nat.le_refl _)
  show wpList _ _ _ _ (fr [(.agg #[(Fl r1), (Fl r3), (Fl r5), (Fl r7), (Iv A_g.x), (Iv A_g.y), (Iv A_g.z), (.slice p11 A_g.vals.length q12)]), (Pt b15 0), (Bo false), (Iv i26), (Pt b75 0), (Bo (halOk A_g)), (Pt b111 0), (Pt b149 0), (Bo (halOk A_g)), (Iv (1 + (A_g.vals.length : Int) * 1)), (Iv 1), Ud, Ud, Ud, (.agg #[(Fl r1), (Fl r3), (Fl r5), (Fl r7), (Iv A_g.x), (Iv A_g.y), (Iv A_g.z), (.slice p11 A_g.vals.length q12)]), (Iv 1048576), (Iv i26), (Iv i26), (Bo (icmp .lss i26 0)), (.tuple #[(.agg #[(Fl r62), (Fl r64), (Fl r66), (Fl r68), (Iv ((halR A_g).x)), (Iv ((halR A_g).y)), (Iv ((halR A_g).z)), (.slice p72 (((halR A_g).vals).length) q73)]), (Bo (halOk A_g))]), (.agg #[(Fl r1), (Fl r3), (Fl r5), (Fl r7), (Iv A_g.x), (Iv A_g.y), (Iv A_g.z), (.slice p11 A_g.vals.length q12)]), (.agg #[(Fl r42), (Fl r44), (Fl r46), (Fl r48), (Iv A_g.x), (Iv A_g.y), (Iv A_g.z), (.slice p52 A_g.vals.length q53)]), (.tuple #[(.agg #[(Fl r62), (Fl r64), (Fl r66), (Fl r68), (Iv ((halR A_g).x)), (Iv ((halR A_g).y)), (Iv ((halR A_g).z)), (.slice p72 (((halR A_g).vals).length) q73)]), (Bo (halOk A_g))]), (.agg #[(Fl r62), (Fl r64), (Fl r66), (Fl r68), (Iv ((halR A_g).x)), (Iv ((halR A_g).y)), (Iv ((halR A_g).z)), (.slice p72 (((halR A_g).vals).length) q73)]), (Bo (halOk A_g)), (.agg #[(Fl r1), (Fl r3), (Fl r5), (Fl r7), (Iv A_g.x), (Iv A_g.y), (Iv A_g.z), (.slice p11 A_g.vals.length q12)]), (.agg #[(Fl r97), (Fl r99), (Fl r101), (Fl r103), (Iv A_g.x), (Iv A_g.y), (Iv A_g.z), (.slice p107 A_g.vals.length q108)]), (.tuple #[(.agg #[(Fl r135), (Fl r137), (Fl r139), (Fl r141), (Iv ((halR A_g).x)), (Iv ((halR A_g).y)), (Iv ((halR A_g).z)), (.slice p145 (((halR A_g).vals).length) q146)]), (Bo (halOk A_g))]), (.agg #[(Fl r97), (Fl r99), (Fl r101), (Fl r103), (Iv A_g.x), (Iv A_g.y), (Iv A_g.z), (.slice p107 A_g.vals.length q108)]), (.tuple #[(.agg #[(Fl r135), (Fl r137), (Fl r139), (Fl r141), (Iv ((halR A_g).x)), (Iv ((halR A_g).y)), (Iv ((halR A_g).z)), (.slice p145 (((halR A_g).vals).length) q146)]), (Bo (halOk A_g))]), (.agg #[(Fl r135), (Fl r137), (Fl r139), (Fl r141), (Iv ((halR A_g).x)), (Iv ((halR A_g).y)), (Iv ((halR A_g).z)), (.slice p145 (((halR A_g).vals).length) q146)]), (Bo (halOk A_g)), v165, v166, v167, v168, v169, v170, v171, v172, (Bo ((!β1) || β2)), v188, v189, v190, v191, (Bo (!(sameG A_g A_g))), (.agg #[(Fl r97), (Fl r99), (Fl r101), (Fl r103), (Iv A_g.x), (Iv A_g.y), (Iv A_g.z), (.slice p107 A_g.vals.length q108)]), (Iv 1), (Iv (1 + (A_g.vals.length : Int) * 1)), v211, v212, v213, v214, v215, v216, v217, v218, v219, v220, v221, v222, (Bo ((β3 || (!β4)) || β5)), (.agg #[(Fl r135), (Fl r137), (Fl r139), (Fl r141), (Iv ((halR A_g).x)), (Iv ((halR A_g).y)), (Iv ((halR A_g).z)), (.slice p145 (((halR A_g).vals).length) q146)]), (Iv 1), (Iv (1 + (((halR A_g).vals).length : Int) * 1)), Ud, Ud, Ud, Ud, Ud, Ud, Ud, Ud, Ud, Ud, Ud, Ud, Ud, Ud, Ud, Ud, Ud, Ud, Ud, Ud, Ud, Ud, Ud, Ud, Ud, Ud, Ud, Ud, Ud, Ud, Ud]) _
  refine q_is rfl rfl (does_assign (u := (Iv (1 + (((halR A_g).vals).length : Int) * 1))) (ev rfl)) (by dsimp only [List.set]; try rfl) ?_
  refine wpList_nil (hK233 _ _ ?_)
  refine wp_seq_k fun K240 hK240 => ?_
  refine wp_region_lit ?_
  refine q_is rfl rfl (does_assign (u := (Iv 1)) (ev rfl)) (by dsimp only [List.set]; try rfl) ?_
  refine wpList_nil (hK240 _ _ ?_)
  refine wp_seq_k fun K241 hK241 => ?_
  refine wp_region_lit ?_
  refine q_is rfl rfl (does_loadAgg (cs := [(Fl r135), (Fl r137), (Fl r139), (Fl r141), (Iv ((halR A_g).x)), (Iv ((halR A_g).y)), (Iv ((halR A_g).z)), (.slice p145 (((halR A_g).vals).length) q146)]) (ev rfl) Try.isAgg31 Try.sizeOf31 (Blk.cells ((((((hB160.ext E175).ext E185).ext E194).kl K204 (fun hc => absurd (Nat.lt_of_lt_of_le (hw110.1 _ hc).2 (Nat.le_trans (Nat.le_trans (Nat.le_trans (Below.size E114) (Nat.le_of_eq (Eq.symm (Wr.size W120)))) (Below.size E125)) hb150)) (Nat.lt_irrefl _))).ext E225).kl K235 (fun hc => absurd (Nat.lt_of_lt_of_le (hw148.1 _ hc).2 (Nat.le_trans (Nat.le_refl _) hb150)) (Nat.lt_irrefl _)))) rfl) (by dsimp only [List.set]; try rfl) ?_
  refine q_is rfl rfl (does_move (u := (Iv 1)) (ev rfl)) (by dsimp only [List.set]; try rfl) ?_
  refine seqd rfl rfl (does_call (args := #[(.agg #[(Fl r135), (Fl r137), (Fl r139), (Fl r141), (Iv ((halR A_g).x)), (Iv ((halR A_g).y)), (Iv ((halR A_g).z)), (.slice p145 (((halR A_g).vals).length) q146)]), (Iv 1)]) cal13 (evs rfl) (c_laws_heldGrid [(Fl r135), (Fl r137), (Fl r139), (Fl r141), (Iv ((halR A_g).x)), (Iv ((halR A_g).y)), (Iv ((halR A_g).z)), (.slice p145 (((halR A_g).vals).length) q146)] (GridT.mk (halR A_g).low ((halR A_g).step) ((halR A_g).x) ((halR A_g).y) ((halR A_g).z) (mkL fF 1 1 ((halR A_g).vals).length)) 1 _ ⟨r135, r137, r139, r141, (.slice p145 (((halR A_g).vals).length) q146), rfl, h136, h138, h140, h142, hM236.get⟩ (by exact mkL_eq) (by omega) (by (try dsimp only); rw [mkL_len]; omega))) ?_; rintro _ w243 ⟨E242, rfl⟩
  have X244 := Ext.gr X237 E242
  show wpList _ _ _ _ (fr [(.agg #[(Fl r1), (Fl r3), (Fl r5), (Fl r7), (Iv A_g.x), (Iv A_g.y), (Iv A_g.z), (.slice p11 A_g.vals.length q12)]), (Pt b15 0), (Bo false), (Iv i26), (Pt b75 0), (Bo (halOk A_g)), (Pt b111 0), (Pt b149 0), (Bo (halOk A_g)), (Iv (1 + (A_g.vals.length : Int) * 1)), (Iv (1 + (((halR A_g).vals).length : Int) * 1)), (Iv 1), Ud, Ud, (.agg #[(Fl r1), (Fl r3), (Fl r5), (Fl r7), (Iv A_g.x), (Iv A_g.y), (Iv A_g.z), (.slice p11 A_g.vals.length q12)]), (Iv 1048576), (Iv i26), (Iv i26), (Bo (icmp .lss i26 0)), (.tuple #[(.agg #[(Fl r62), (Fl r64), (Fl r66), (Fl r68), (Iv ((halR A_g).x)), (Iv ((halR A_g).y)), (Iv ((halR A_g).z)), (.slice p72 (((halR A_g).vals).length) q73)]), (Bo (halOk A_g))]), (.agg #[(Fl r1), (Fl r3), (Fl r5), (Fl r7), (Iv A_g.x), (Iv A_g.y), (Iv A_g.z), (.slice p11 A_g.vals.length q12)]), (.agg #[(Fl r42), (Fl r44), (Fl r46), (Fl r48), (Iv A_g.x), (Iv A_g.y), (Iv A_g.z), (.slice p52 A_g.vals.length q53)]), (.tuple #[(.agg #[(Fl r62), (Fl r64), (Fl r66), (Fl r68), (Iv ((halR A_g).x)), (Iv ((halR A_g).y)), (Iv ((halR A_g).z)), (.slice p72 (((halR A_g).vals).length) q73)]), (Bo (halOk A_g))]), (.agg #[(Fl r62), (Fl r64), (Fl r66), (Fl r68), (Iv ((halR A_g).x)), (Iv ((halR A_g).y)), (Iv ((halR A_g).z)), (.slice p72 (((halR A_g).vals).length) q73)]), (Bo (halOk A_g)), (.agg #[(Fl r1), (Fl r3), (Fl r5), (Fl r7), (Iv A_g.x), (Iv A_g.y), (Iv A_g.z), (.slice p11 A_g.vals.length q12)]), (.agg #[(Fl r97), (Fl r99), (Fl r101), (Fl r103), (Iv A_g.x), (Iv A_g.y), (Iv A_g.z), (.slice p107 A_g.vals.length q108)]), (.tuple #[(.agg #[(Fl r135), (Fl r137), (Fl r139), (Fl r141), (Iv ((halR A_g).x)), (Iv ((halR A_g).y)), (Iv ((halR A_g).z)), (.slice p145 (((halR A_g).vals).length) q146)]), (Bo (halOk A_g))]), (.agg #[(Fl r97), (Fl r99), (Fl r101), (Fl r103), (Iv A_g.x), (Iv A_g.y), (Iv A_g.z), (.slice p107 A_g.vals.length q108)]), (.tuple #[(.agg #[(Fl r135), (Fl r137), (Fl r139), (Fl r141), (Iv ((halR A_g).x)), (Iv ((halR A_g).y)), (Iv ((halR A_g).z)), (.slice p145 (((halR A_g).vals).length) q146)]), (Bo (halOk A_g))]), (.agg #[(Fl r135), (Fl r137), (Fl r139), (Fl r141), (Iv ((halR A_g).x)), (Iv ((halR A_g).y)), (Iv ((halR A_g).z)), (.slice p145 (((halR A_g).vals).length) q146)]), (Bo (halOk A_g)), v165, v166, v167, v168, v169, v170, v171, v172, (Bo ((!β1) || β2)), v188, v189, v190, v191, (Bo (!(sameG A_g A_g))), (.agg #[(Fl r97), (Fl r99), (Fl r101), (Fl r103), (Iv A_g.x), (Iv A_g.y), (Iv A_g.z), (.slice p107 A_g.vals.length q108)]), (Iv 1), (Iv (1 + (A_g.vals.length : Int) * 1)), v211, v212, v213, v214, v215, v216, v217, v218, v219, v220, v221, v222, (Bo ((β3 || (!β4)) || β5)), (.agg #[(Fl r135), (Fl r137), (Fl r139), (Fl r141), (Iv ((halR A_g).x)), (Iv ((halR A_g).y)), (Iv ((halR A_g).z)), (.slice p145 (((halR A_g).vals).length) q146)]), (Iv 1), (Iv (1 + (((halR A_g).vals).length : Int) * 1)), (.agg #[(Fl r135), (Fl r137), (Fl r139), (Fl r141), (Iv ((halR A_g).x)), (Iv ((halR A_g).y)), (Iv ((halR A_g).z)), (.slice p145 (((halR A_g).vals).length) q146)]), (Iv 1), (Iv (1 + ((mkL fF 1 1 ((halR A_g).vals).length).length : Int) * 1)), Ud, Ud, Ud, Ud, Ud, Ud, Ud, Ud, Ud, Ud, Ud, Ud, Ud, Ud, Ud, Ud, Ud, Ud, Ud, Ud, Ud, Ud, Ud, Ud, Ud, Ud, Ud, Ud]) _
  refine q_is rfl rfl (does_assign (u := (Iv (1 + ((mkL fF 1 1 ((halR A_g).vals).length).length : Int) * 1))) (ev rfl)) (by dsimp only [List.set]; try rfl) ?_
  refine wpList_nil (hK241 _ _ ?_)
  refine wp_seq_k fun K245 hK245 => ?_
  refine wp_seq_k fun K246 hK246 => ?_
  refine wp_region_lit ?_
  refine q_is rfl rfl (does_move (u := (Iv (1 + ((mkL fF 1 1 ((halR A_g).vals).length).length : Int) * 1))) (ev rfl)) (by dsimp only [List.set]; try rfl) ?_
  refine q_is rfl rfl (does_icmp (p := 1 + ((mkL fF 1 1 ((halR A_g).vals).length).length : Int) * 1) (q := 0) (.inr (.inr (.inl rfl))) (ev rfl) (ev rfl)) (by dsimp only [List.set]; try rfl) ?_
  refine wpList_nil (hK246 _ _ ?_)
  refine wp_cond_split (t := icmp .lss (1 + ((mkL fF 1 1 ((halR A_g).vals).length).length : Int) * 1) 0) (ev rfl) (fun c247 => ?_) (fun c247 => ?_)
  · have c247' := c247
    (try simp only [hβ1, hβ2, hβ3, hβ4, hβ5, sameG_self, bne_self_eq_false] at c247')
    (try simp only [hβ1, hβ2, hβ3, hβ4, hβ5] at c247')
    (try simp only [icmp, Bool.and_eq_true, Bool.or_eq_true, Bool.and_eq_false_iff, Bool.or_eq_false_iff, Bool.not_eq_true', Bool.not_eq_false', decide_eq_true_eq, decide_eq_false_iff_not, beq_iff_eq, bne_iff_ne, beq_eq_false_iff_ne, bne_eq_false_iff_eq] at c247')
    refine wp_seq_k fun K248 hK248 => ?_
    refine wp_region_lit ?_
    refine q_is rfl rfl (does_assign (u := (Bo false)) (ev rfl)) (by dsimp only [List.set]; try rfl) ?_
    refine wpList_nil (hK248 _ _ ?_)
    refine wp_ret ?_
    dsimp only [Exit.then, Exit.inBlock]
    refine ret_val (v := (Bo false)) (res_T rfl (slot rfl)) X244 ?_
    try simp only [h2, h4, h6, h8, h43, h45, h47, h49, h63, h65, h67, h69, h98, h100, h102, h104, h136, h138, h140, h142, hβ1, hβ2, hβ3, hβ4, hβ5, sameG_self, bne_self_eq_false] at c31 c179 c198 c229 c247
    have x249 : true = false := by first | with_reducible rfl | (exfalso; omega) | (exfalso; simp only [mkL_len] at * <;> omega) | (exfalso; rcases c247' with (hh | hh) | hh <;> first | omega | (exact Bool.noConfusion hh)) | (exfalso; rcases c247' with hh | hh <;> first | omega | (exact Bool.noConfusion hh)) | (simp only [sameG_self, bne_self_eq_false, h2, h4, h6, h8, h43, h45, h47, h49, h63, h65, h67, h69, h98, h100, h102, h104, h136, h138, h140, h142, hβ1, hβ2, hβ3, hβ4, hβ5, c31, c179, c198, c229, c247]; done) | (simp [sameG_self, bne_self_eq_false, h2, h4, h6, h8, h43, h45, h47, h49, h63, h65, h67, h69, h98, h100, h102, h104, h136, h138, h140, h142, hβ1, hβ2, hβ3, hβ4, hβ5, c31, c179, c198, c229, c247]; done) | (simp_all; done) | (exfalso; simp_all; done)
    exact (by first | rfl | rw [x249])
  have c247' := c247
  (try simp only [hβ1, hβ2, hβ3, hβ4, hβ5, sameG_self, bne_self_eq_false] at c247')
  (try simp only [hβ1, hβ2, hβ3, hβ4, hβ5] at c247')
  (try simp only [icmp, Bool.and_eq_true, Bool.or_eq_true, Bool.and_eq_false_iff, Bool.or_eq_false_iff, Bool.not_eq_true', Bool.not_eq_false', decide_eq_true_eq, decide_eq_false_iff_not, beq_iff_eq, bne_iff_ne, beq_eq_false_iff_ne, bne_eq_false_iff_eq] at c247')
  refine wp_skip (hK245 _ _ ?_)
  refine wp_seq_k fun K250 hK250 => ?_
  refine wp_seq_k fun K251 hK251 => ?_
  refine wp_region_lit ?_
  refine q_is rfl rfl (does_move (u := (Iv (1 + ((mkL fF 1 1 ((halR A_g).vals).length).length : Int) * 1))) (ev rfl)) (by dsimp only [List.set]; try rfl) ?_
  refine q_is rfl rfl (does_move (u := (Iv (1 + (((halR A_g).vals).length : Int) * 1))) (ev rfl)) (by dsimp only [List.set]; try rfl) ?_
  refine q_is rfl rfl (does_icmp (p := 1 + ((mkL fF 1 1 ((halR A_g).vals).length).length : Int) * 1) (q := 1 + (((halR A_g).vals).length : Int) * 1) (.inr (.inl rfl)) (ev rfl) (ev rfl)) (by dsimp only [List.set]; try rfl) ?_
  refine wpList_nil (hK251 _ _ ?_)
  refine wp_cond_split (t := icmp .neq (1 + ((mkL fF 1 1 ((halR A_g).vals).length).length : Int) * 1) (1 + (((halR A_g).vals).length : Int) * 1)) (ev rfl) (fun c252 => ?_) (fun c252 => ?_)
  · have c252' := c252
    (try simp only [hβ1, hβ2, hβ3, hβ4, hβ5, sameG_self, bne_self_eq_false] at c252')
    (try simp only [hβ1, hβ2, hβ3, hβ4, hβ5] at c252')
    (try simp only [icmp, Bool.and_eq_true, Bool.or_eq_true, Bool.and_eq_false_iff, Bool.or_eq_false_iff, Bool.not_eq_true', Bool.not_eq_false', decide_eq_true_eq, decide_eq_false_iff_not, beq_iff_eq, bne_iff_ne, beq_eq_false_iff_ne, bne_eq_false_iff_eq] at c252')
    refine wp_seq_k fun K253 hK253 => ?_
    refine wp_region_lit ?_
    refine q_is rfl rfl (does_assign (u := (Bo false)) (ev rfl)) (by dsimp only [List.set]; try rfl) ?_
    refine wpList_nil (hK253 _ _ ?_)
    refine wp_ret ?_
    dsimp only [Exit.then, Exit.inBlock]
    refine ret_val (v := (Bo false)) (res_T rfl (slot rfl)) X244 ?_
    try simp only [h2, h4, h6, h8, h43, h45, h47, h49, h63, h65, h67, h69, h98, h100, h102, h104, h136, h138, h140, h142, hβ1, hβ2, hβ3, hβ4, hβ5, sameG_self, bne_self_eq_false] at c31 c179 c198 c229 c247 c252
    have x254 : true = false := by first | with_reducible rfl | (exfalso; omega) | (exfalso; simp only [mkL_len] at * <;> omega) | (exfalso; rcases c252' with (hh | hh) | hh <;> first | omega | (exact Bool.noConfusion hh)) | (exfalso; rcases c252' with hh | hh <;> first | omega | (exact Bool.noConfusion hh)) | (simp only [sameG_self, bne_self_eq_false, h2, h4, h6, h8, h43, h45, h47, h49, h63, h65, h67, h69, h98, h100, h102, h104, h136, h138, h140, h142, hβ1, hβ2, hβ3, hβ4, hβ5, c31, c179, c198, c229, c247, c252]; done) | (simp [sameG_self, bne_self_eq_false, h2, h4, h6, h8, h43, h45, h47, h49, h63, h65, h67, h69, h98, h100, h102, h104, h136, h138, h140, h142, hβ1, hβ2, hβ3, hβ4, hβ5, c31, c179, c198, c229, c247, c252]; done) | (simp_all; done) | (exfalso; simp_all; done)
    exact (by first | rfl | rw [x254])
  have c252' := c252
  (try simp only [hβ1, hβ2, hβ3, hβ4, hβ5, sameG_self, bne_self_eq_false] at c252')
  (try simp only [hβ1, hβ2, hβ3, hβ4, hβ5] at c252')
  (try simp only [icmp, Bool.and_eq_true, Bool.or_eq_true, Bool.and_eq_false_iff, Bool.or_eq_false_iff, Bool.not_eq_true', Bool.not_eq_false', decide_eq_true_eq, decide_eq_false_iff_not, beq_iff_eq, bne_iff_ne, beq_eq_false_iff_ne, bne_eq_false_iff_eq] at c252')
  refine wp_skip (hK250 _ _ ?_)
  refine wp_seq_k fun K255 hK255 => ?_
  refine wp_region_lit ?_
  refine q_is rfl rfl (does_loadAgg (cs := [(Fl r1), (Fl r3), (Fl r5), (Fl r7), (Iv A_g.x), (Iv A_g.y), (Iv A_g.z), (.slice p11 A_g.vals.length q12)]) (ev rfl) Try.isAgg27 Try.sizeOf27 (Blk.cells ((((((((((((((((((hB17.ext E24).ext E34).ext E56).ext E78).wr W83 (Nat.ne_of_lt n80)).ext E88).ext E114).wr W120 (Nat.ne_of_lt n116)).ext E125).ext E152).wr W159 (Nat.ne_of_lt n154)).ext E175).ext E185).ext E194).kl K204 (fun hc => absurd (hw110.1 _ hc).1 (Nat.not_le_of_lt n95))).ext E225).kl K235 (fun hc => absurd (hw148.1 _ hc).1 (Nat.not_le_of_lt n132))).ext E242)) rfl) (by dsimp only [List.set]; try rfl) ?_
  refine seqd rfl rfl (does_call (args := #[(.agg #[(Fl r1), (Fl r3), (Fl r5), (Fl r7), (Iv A_g.x), (Iv A_g.y), (Iv A_g.z), (.slice p11 A_g.vals.length q12)])]) cal9 (evs rfl) (c_laws_toGrid [(Fl r1), (Fl r3), (Fl r5), (Fl r7), (Iv A_g.x), (Iv A_g.y), (Iv A_g.z), (.slice p11 A_g.vals.length q12)] A_g _ ⟨r1, r3, r5, r7, (.slice p11 A_g.vals.length q12), rfl, h2, h4, h6, h8, (Sl.ext hs13 RF.mono X244)⟩ (by omega))) ?_; rintro _ w257 ⟨E256, ⟨cs259, Lw260, rfl, hh258, hw261⟩⟩
  have X262 := Ext.gr X244 E256
  have n263 : b15 < w243.heap.size := Blk.lt ((((((((((((((((((hB17.ext E24).ext E34).ext E56).ext E78).wr W83 (Nat.ne_of_lt n80)).ext E88).ext E114).wr W120 (Nat.ne_of_lt n116)).ext E125).ext E152).wr W159 (Nat.ne_of_lt n154)).ext E175).ext E185).ext E194).kl K204 (fun hc => absurd (hw110.1 _ hc).1 (Nat.not_le_of_lt n95))).ext E225).kl K235 (fun hc => absurd (hw148.1 _ hc).1 (Nat.not_le_of_lt n132))).ext E242)
  have n264 : b75 < w243.heap.size := Blk.lt (((((((((((((hB84.ext E88).ext E114).wr W120 (Nat.ne_of_lt n117)).ext E125).ext E152).wr W159 (Nat.ne_of_lt n155)).ext E175).ext E185).ext E194).kl K204 (fun hc => absurd (hw110.1 _ hc).1 (Nat.not_le_of_lt n96))).ext E225).kl K235 (fun hc => absurd (hw148.1 _ hc).1 (Nat.not_le_of_lt n133))).ext E242)
  have n265 : b111 < w243.heap.size := Blk.lt ((((((((((hB121.ext E125).ext E152).wr W159 (Nat.ne_of_lt n156)).ext E175).ext E185).ext E194).kl K204 (fun hc => absurd (Nat.lt_of_lt_of_le (hw110.1 _ hc).2 (Nat.le_trans (Nat.le_refl _) hb112)) (Nat.lt_irrefl _))).ext E225).kl K235 (fun hc => absurd (hw148.1 _ hc).1 (Nat.not_le_of_lt n134))).ext E242)
  have n266 : b149 < w243.heap.size := Blk.lt (((((((hB160.ext E175).ext E185).ext E194).kl K204 (fun hc => absurd (Nat.lt_of_lt_of_le (hw110.1 _ hc).2 (Nat.le_trans (Nat.le_trans (Nat.le_trans (Below.size E114) (Nat.le_of_eq (Eq.symm (Wr.size W120)))) (Below.size E125)) hb150)) (Nat.lt_irrefl _))).ext E225).kl K235 (fun hc => absurd (Nat.lt_of_lt_of_le (hw148.1 _ hc).2 (Nat.le_trans (Nat.le_refl _) hb150)) (Nat.lt_irrefl _))).ext E242)
  obtain ⟨r267, r269, r271, r273, y275, rfl, h268, h270, h272, h274, h276⟩ := hh258.get
  have h276l := Sl.len h276; obtain ⟨p277, q278, rfl⟩ := Sl.shape h276
  have hh279 : Hang w243.heap.size w257 (fun u => Sl RF 1 u (.slice p277 A_g.vals.length q278) A_g.vals) := fun u hu => by obtain ⟨_, _, _, _, _, hq, _, _, _, _, _⟩ := hh258 u hu; cases hq; assumption
  have hw280 : WL 1 w243.heap.size w257 Lw260 (.slice p277 A_g.vals.length q278) A_g.vals.length := hw261
  show wpList _ _ _ _ (fr [(.agg #[(Fl r1), (Fl r3), (Fl r5), (Fl r7), (Iv A_g.x), (Iv A_g.y), (Iv A_g.z), (.slice p11 A_g.vals.length q12)]), (Pt b15 0), (Bo false), (Iv i26), (Pt b75 0), (Bo (halOk A_g)), (Pt b111 0), (Pt b149 0), (Bo (halOk A_g)), (Iv (1 + (A_g.vals.length : Int) * 1)), (Iv (1 + (((halR A_g).vals).length : Int) * 1)), (Iv (1 + ((mkL fF 1 1 ((halR A_g).vals).length).length : Int) * 1)), Ud, Ud, (.agg #[(Fl r1), (Fl r3), (Fl r5), (Fl r7), (Iv A_g.x), (Iv A_g.y), (Iv A_g.z), (.slice p11 A_g.vals.length q12)]), (Iv 1048576), (Iv i26), (Iv i26), (Bo (icmp .lss i26 0)), (.tuple #[(.agg #[(Fl r62), (Fl r64), (Fl r66), (Fl r68), (Iv ((halR A_g).x)), (Iv ((halR A_g).y)), (Iv ((halR A_g).z)), (.slice p72 (((halR A_g).vals).length) q73)]), (Bo (halOk A_g))]), (.agg #[(Fl r1), (Fl r3), (Fl r5), (Fl r7), (Iv A_g.x), (Iv A_g.y), (Iv A_g.z), (.slice p11 A_g.vals.length q12)]), (.agg #[(Fl r42), (Fl r44), (Fl r46), (Fl r48), (Iv A_g.x), (Iv A_g.y), (Iv A_g.z), (.slice p52 A_g.vals.length q53)]), (.tuple #[(.agg #[(Fl r62), (Fl r64), (Fl r66), (Fl r68), (Iv ((halR A_g).x)), (Iv ((halR A_g).y)), (Iv ((halR A_g).z)), (.slice p72 (((halR A_g).vals).length) q73)]), (Bo (halOk A_g))]), (.agg #[(Fl r62), (Fl r64), (Fl r66), (Fl r68), (Iv ((halR A_g).x)), (Iv ((halR A_g).y)), (Iv ((halR A_g).z)), (.slice p72 (((halR A_g).vals).length) q73)]), (Bo (halOk A_g)), (.agg #[(Fl r1), (Fl r3), (Fl r5), (Fl r7), (Iv A_g.x), (Iv A_g.y), (Iv A_g.z), (.slice p11 A_g.vals.length q12)]), (.agg #[(Fl r97), (Fl r99), (Fl r101), (Fl r103), (Iv A_g.x), (Iv A_g.y), (Iv A_g.z), (.slice p107 A_g.vals.length q108)]), (.tuple #[(.agg #[(Fl r135), (Fl r137), (Fl r139), (Fl r141), (Iv ((halR A_g).x)), (Iv ((halR A_g).y)), (Iv ((halR A_g).z)), (.slice p145 (((halR A_g).vals).length) q146)]), (Bo (halOk A_g))]), (.agg #[(Fl r97), (Fl r99), (Fl r101), (Fl r103), (Iv A_g.x), (Iv A_g.y), (Iv A_g.z), (.slice p107 A_g.vals.length q108)]), (.tuple #[(.agg #[(Fl r135), (Fl r137), (Fl r139), (Fl r141), (Iv ((halR A_g).x)), (Iv ((halR A_g).y)), (Iv ((halR A_g).z)), (.slice p145 (((halR A_g).vals).length) q146)]), (Bo (halOk A_g))]), (.agg #[(Fl r135), (Fl r137), (Fl r139), (Fl r141), (Iv ((halR A_g).x)), (Iv ((halR A_g).y)), (Iv ((halR A_g).z)), (.slice p145 (((halR A_g).vals).length) q146)]), (Bo (halOk A_g)), v165, v166, v167, v168, v169, v170, v171, v172, (Bo ((!β1) || β2)), v188, v189, v190, v191, (Bo (!(sameG A_g A_g))), (.agg #[(Fl r97), (Fl r99), (Fl r101), (Fl r103), (Iv A_g.x), (Iv A_g.y), (Iv A_g.z), (.slice p107 A_g.vals.length q108)]), (Iv 1), (Iv (1 + (A_g.vals.length : Int) * 1)), v211, v212, v213, v214, v215, v216, v217, v218, v219, v220, v221, v222, (Bo ((β3 || (!β4)) || β5)), (.agg #[(Fl r135), (Fl r137), (Fl r139), (Fl r141), (Iv ((halR A_g).x)), (Iv ((halR A_g).y)), (Iv ((halR A_g).z)), (.slice p145 (((halR A_g).vals).length) q146)]), (Iv 1), (Iv (1 + (((halR A_g).vals).length : Int) * 1)), (.agg #[(Fl r135), (Fl r137), (Fl r139), (Fl r141), (Iv ((halR A_g).x)), (Iv ((halR A_g).y)), (Iv ((halR A_g).z)), (.slice p145 (((halR A_g).vals).length) q146)]), (Iv 1), (Iv (1 + ((mkL fF 1 1 ((halR A_g).vals).length).length : Int) * 1)), (Iv (1 + ((mkL fF 1 1 ((halR A_g).vals).length).length : Int) * 1)), (Bo (icmp .lss (1 + ((mkL fF 1 1 ((halR A_g).vals).length).length : Int) * 1) 0)), (Iv (1 + ((mkL fF 1 1 ((halR A_g).vals).length).length : Int) * 1)), (Iv (1 + (((halR A_g).vals).length : Int) * 1)), (Bo (icmp .neq (1 + ((mkL fF 1 1 ((halR A_g).vals).length).length : Int) * 1) (1 + (((halR A_g).vals).length : Int) * 1))), Ud, (.agg #[(Fl r1), (Fl r3), (Fl r5), (Fl r7), (Iv A_g.x), (Iv A_g.y), (Iv A_g.z), (.slice p11 A_g.vals.length q12)]), (.agg #[(Fl r267), (Fl r269), (Fl r271), (Fl r273), (Iv A_g.x), (Iv A_g.y), (Iv A_g.z), (.slice p277 A_g.vals.length q278)]), Ud, Ud, Ud, Ud, Ud, Ud, Ud, Ud, Ud, Ud, Ud, Ud, Ud, Ud, Ud, Ud, Ud, Ud, Ud, Ud]) _
  refine seqd rfl rfl (does_call (args := #[(.agg #[(Fl r267), (Fl r269), (Fl r271), (Fl r273), (Iv A_g.x), (Iv A_g.y), (Iv A_g.z), (.slice p277 A_g.vals.length q278)])]) cal10 (evs rfl) (c_impl_HalveGrid [(Fl r267), (Fl r269), (Fl r271), (Fl r273), (Iv A_g.x), (Iv A_g.y), (Iv A_g.z), (.slice p277 A_g.vals.length q278)] A_g _ ⟨r267, r269, r271, r273, (.slice p277 A_g.vals.length q278), rfl, h268, h270, h272, h274, hh279.get⟩)) ?_; rintro _ w282 ⟨E281, ⟨cs284, Lw285, rfl, hh283, hw286⟩⟩
  have X287 := Ext.gr X262 E281
  have n288 : b15 < w257.heap.size := Blk.lt (((((((((((((((((((hB17.ext E24).ext E34).ext E56).ext E78).wr W83 (Nat.ne_of_lt n80)).ext E88).ext E114).wr W120 (Nat.ne_of_lt n116)).ext E125).ext E152).wr W159 (Nat.ne_of_lt n154)).ext E175).ext E185).ext E194).kl K204 (fun hc => absurd (hw110.1 _ hc).1 (Nat.not_le_of_lt n95))).ext E225).kl K235 (fun hc => absurd (hw148.1 _ hc).1 (Nat.not_le_of_lt n132))).ext E242).ext E256)
  have n289 : b75 < w257.heap.size := Blk.lt ((((((((((((((hB84.ext E88).ext E114).wr W120 (Nat.ne_of_lt n117)).ext E125).ext E152).wr W159 (Nat.ne_of_lt n155)).ext E175).ext E185).ext E194).kl K204 (fun hc => absurd (hw110.1 _ hc).1 (Nat.not_le_of_lt n96))).ext E225).kl K235 (fun hc => absurd (hw148.1 _ hc).1 (Nat.not_le_of_lt n133))).ext E242).ext E256)
  have n290 : b111 < w257.heap.size := Blk.lt (((((((((((hB121.ext E125).ext E152).wr W159 (Nat.ne_of_lt n156)).ext E175).ext E185).ext E194).kl K204 (fun hc => absurd (Nat.lt_of_lt_of_le (hw110.1 _ hc).2 (Nat.le_trans (Nat.le_refl _) hb112)) (Nat.lt_irrefl _))).ext E225).kl K235 (fun hc => absurd (hw148.1 _ hc).1 (Nat.not_le_of_lt n134))).ext E242).ext E256)
  have n291 : b149 < w257.heap.size := Blk.lt ((((((((hB160.ext E175).ext E185).ext E194).kl K204 (fun hc => absurd (Nat.lt_of_lt_of_le (hw110.1 _ hc).2 (Nat.le_trans (Nat.le_trans (Nat.le_trans (Below.size E114) (Nat.le_of_eq (Eq.symm (Wr.size W120)))) (Below.size E125)) hb150)) (Nat.lt_irrefl _))).ext E225).kl K235 (fun hc => absurd (Nat.lt_of_lt_of_le (hw148.1 _ hc).2 (Nat.le_trans (Nat.le_refl _) hb150)) (Nat.lt_irrefl _))).ext E242).ext E256)
  obtain ⟨r292, r294, r296, r298, y300, rfl, h293, h295, h297, h299, h301⟩ := hh283.get
  have h301l := Sl.len h301; obtain ⟨p302, q303, rfl⟩ := Sl.shape h301
  have hh304 : Hang w257.heap.size w282 (fun u => Sl RF 1 u (.slice p302 (((halR A_g).vals).length) q303) ((halR A_g).vals)) := fun u hu => by obtain ⟨_, _, _, _, _, hq, _, _, _, _, _⟩ := hh283 u hu; cases hq; assumption
  have hw305 : WL 1 w257.heap.size w282 Lw285 (.slice p302 (((halR A_g).vals).length) q303) ((halR A_g).vals).length := hw286
  show wpList _ _ _ _ (fr [(.agg #[(Fl r1), (Fl r3), (Fl r5), (Fl r7), (Iv A_g.x), (Iv A_g.y), (Iv A_g.z), (.slice p11 A_g.vals.length q12)]), (Pt b15 0), (Bo false), (Iv i26), (Pt b75 0), (Bo (halOk A_g)), (Pt b111 0), (Pt b149 0), (Bo (halOk A_g)), (Iv (1 + (A_g.vals.length : Int) * 1)), (Iv (1 + (((halR A_g).vals).length : Int) * 1)), (Iv (1 + ((mkL fF 1 1 ((halR A_g).vals).length).length : Int) * 1)), Ud, Ud, (.agg #[(Fl r1), (Fl r3), (Fl r5), (Fl r7), (Iv A_g.x), (Iv A_g.y), (Iv A_g.z), (.slice p11 A_g.vals.length q12)]), (Iv 1048576), (Iv i26), (Iv i26), (Bo (icmp .lss i26 0)), (.tuple #[(.agg #[(Fl r62), (Fl r64), (Fl r66), (Fl r68), (Iv ((halR A_g).x)), (Iv ((halR A_g).y)), (Iv ((halR A_g).z)), (.slice p72 (((halR A_g).vals).length) q73)]), (Bo (halOk A_g))]), (.agg #[(Fl r1), (Fl r3), (Fl r5), (Fl r7), (Iv A_g.x), (Iv A_g.y), (Iv A_g.z), (.slice p11 A_g.vals.length q12)]), (.agg #[(Fl r42), (Fl r44), (Fl r46), (Fl r48), (Iv A_g.x), (Iv A_g.y), (Iv A_g.z), (.slice p52 A_g.vals.length q53)]), (.tuple #[(.agg #[(Fl r62), (Fl r64), (Fl r66), (Fl r68), (Iv ((halR A_g).x)), (Iv ((halR A_g).y)), (Iv ((halR A_g).z)), (.slice p72 (((halR A_g).vals).length) q73)]), (Bo (halOk A_g))]), (.agg #[(Fl r62), (Fl r64), (Fl r66), (Fl r68), (Iv ((halR A_g).x)), (Iv ((halR A_g).y)), (Iv ((halR A_g).z)), (.slice p72 (((halR A_g).vals).length) q73)]), (Bo (halOk A_g)), (.agg #[(Fl r1), (Fl r3), (Fl r5), (Fl r7), (Iv A_g.x), (Iv A_g.y), (Iv A_g.z), (.slice p11 A_g.vals.length q12)]), (.agg #[(Fl r97), (Fl r99), (Fl r101), (Fl r103), (Iv A_g.x), (Iv A_g.y), (Iv A_g.z), (.slice p107 A_g.vals.length q108)]), (.tuple #[(.agg #[(Fl r135), (Fl r137), (Fl r139), (Fl r141), (Iv ((halR A_g).x)), (Iv ((halR A_g).y)), (Iv ((halR A_g).z)), (.slice p145 (((halR A_g).vals).length) q146)]), (Bo (halOk A_g))]), (.agg #[(Fl r97), (Fl r99), (Fl r101), (Fl r103), (Iv A_g.x), (Iv A_g.y), (Iv A_g.z), (.slice p107 A_g.vals.length q108)]), (.tuple #[(.agg #[(Fl r135), (Fl r137), (Fl r139), (Fl r141), (Iv ((halR A_g).x)), (Iv ((halR A_g).y)), (Iv ((halR A_g).z)), (.slice p145 (((halR A_g).vals).length) q146)]), (Bo (halOk A_g))]), (.agg #[(Fl r135), (Fl r137), (Fl r139), (Fl r141), (Iv ((halR A_g).x)), (Iv ((halR A_g).y)), (Iv ((halR A_g).z)), (.slice p145 (((halR A_g).vals).length) q146)]), (Bo (halOk A_g)), v165, v166, v167, v168, v169, v170, v171, v172, (Bo ((!β1) || β2)), v188, v189, v190, v191, (Bo (!(sameG A_g A_g))), (.agg #[(Fl r97), (Fl r99), (Fl r101), (Fl r103), (Iv A_g.x), (Iv A_g.y), (Iv A_g.z), (.slice p107 A_g.vals.length q108)]), (Iv 1), (Iv (1 + (A_g.vals.length : Int) * 1)), v211, v212, v213, v214, v215, v216, v217, v218, v219, v220, v221, v222, (Bo ((β3 || (!β4)) || β5)), (.agg #[(Fl r135), (Fl r137), (Fl r139), (Fl r141), (Iv ((halR A_g).x)), (Iv ((halR A_g).y)), (Iv ((halR A_g).z)), (.slice p145 (((halR A_g).vals).length) q146)]), (Iv 1), (Iv (1 + (((halR A_g).vals).length : Int) * 1)), (.agg #[(Fl r135), (Fl r137), (Fl r139), (Fl r141), (Iv ((halR A_g).x)), (Iv ((halR A_g).y)), (Iv ((halR A_g).z)), (.slice p145 (((halR A_g).vals).length) q146)]), (Iv 1), (Iv (1 + ((mkL fF 1 1 ((halR A_g).vals).length).length : Int) * 1)), (Iv (1 + ((mkL fF 1 1 ((halR A_g).vals).length).length : Int) * 1)), (Bo (icmp .lss (1 + ((mkL fF 1 1 ((halR A_g).vals).length).length : Int) * 1) 0)), (Iv (1 + ((mkL fF 1 1 ((halR A_g).vals).length).length : Int) * 1)), (Iv (1 + (((halR A_g).vals).length : Int) * 1)), (Bo (icmp .neq (1 + ((mkL fF 1 1 ((halR A_g).vals).length).length : Int) * 1) (1 + (((halR A_g).vals).length : Int) * 1))), Ud, (.agg #[(Fl r1), (Fl r3), (Fl r5), (Fl r7), (Iv A_g.x), (Iv A_g.y), (Iv A_g.z), (.slice p11 A_g.vals.length q12)]), (.agg #[(Fl r267), (Fl r269), (Fl r271), (Fl r273), (Iv A_g.x), (Iv A_g.y), (Iv A_g.z), (.slice p277 A_g.vals.length q278)]), (.tuple #[(.agg #[(Fl r292), (Fl r294), (Fl r296), (Fl r298), (Iv ((halR A_g).x)), (Iv ((halR A_g).y)), (Iv ((halR A_g).z)), (.slice p302 (((halR A_g).vals).length) q303)]), (Bo (halOk A_g))]), Ud, Ud, Ud, Ud, Ud, Ud, Ud, Ud, Ud, Ud, Ud, Ud, Ud, Ud, Ud, Ud, Ud, Ud, Ud]) _
  refine q_is rfl rfl (does_move (u := (.tuple #[(.agg #[(Fl r292), (Fl r294), (Fl r296), (Fl r298), (Iv ((halR A_g).x)), (Iv ((halR A_g).y)), (Iv ((halR A_g).z)), (.slice p302 (((halR A_g).vals).length) q303)]), (Bo (halOk A_g))])) (ev rfl)) (by dsimp only [List.set]; try rfl) ?_
  refine q_is rfl rfl (does_extract (vs := #[(.agg #[(Fl r292), (Fl r294), (Fl r296), (Fl r298), (Iv ((halR A_g).x)), (Iv ((halR A_g).y)), (Iv ((halR A_g).z)), (.slice p302 (((halR A_g).vals).length) q303)]), (Bo (halOk A_g))]) (u := (.agg #[(Fl r292), (Fl r294), (Fl r296), (Fl r298), (Iv ((halR A_g).x)), (Iv ((halR A_g).y)), (Iv ((halR A_g).z)), (.slice p302 (((halR A_g).vals).length) q303)])) (ev rfl) rfl) (by dsimp only [List.set]; try rfl) ?_
  refine q_is rfl rfl (does_extract (vs := #[(.agg #[(Fl r292), (Fl r294), (Fl r296), (Fl r298), (Iv ((halR A_g).x)), (Iv ((halR A_g).y)), (Iv ((halR A_g).z)), (.slice p302 (((halR A_g).vals).length) q303)]), (Bo (halOk A_g))]) (u := (Bo (halOk A_g))) (ev rfl) rfl) (by dsimp only [List.set]; try rfl) ?_
  refine seqd rfl rfl (does_alloc z31) ?_; rintro _ w310 ⟨b306, rfl, hb307, hB308, E309⟩
  have n311 : b15 < b306 := Nat.lt_of_lt_of_le (Blk.lt ((((((((((((((((((((hB17.ext E24).ext E34).ext E56).ext E78).wr W83 (Nat.ne_of_lt n80)).ext E88).ext E114).wr W120 (Nat.ne_of_lt n116)).ext E125).ext E152).wr W159 (Nat.ne_of_lt n154)).ext E175).ext E185).ext E194).kl K204 (fun hc => absurd (hw110.1 _ hc).1 (Nat.not_le_of_lt n95))).ext E225).kl K235 (fun hc => absurd (hw148.1 _ hc).1 (Nat.not_le_of_lt n132))).ext E242).ext E256).ext E281)) hb307
  have n312 : b75 < b306 := Nat.lt_of_lt_of_le (Blk.lt (((((((((((((((hB84.ext E88).ext E114).wr W120 (Nat.ne_of_lt n117)).ext E125).ext E152).wr W159 (Nat.ne_of_lt n155)).ext E175).ext E185).ext E194).kl K204 (fun hc => absurd (hw110.1 _ hc).1 (Nat.not_le_of_lt n96))).ext E225).kl K235 (fun hc => absurd (hw148.1 _ hc).1 (Nat.not_le_of_lt n133))).ext E242).ext E256).ext E281)) hb307
  have n313 : b111 < b306 := Nat.lt_of_lt_of_le (Blk.lt ((((((((((((hB121.ext E125).ext E152).wr W159 (Nat.ne_of_lt n156)).ext E175).ext E185).ext E194).kl K204 (fun hc => absurd (Nat.lt_of_lt_of_le (hw110.1 _ hc).2 (Nat.le_trans (Nat.le_refl _) hb112)) (Nat.lt_irrefl _))).ext E225).kl K235 (fun hc => absurd (hw148.1 _ hc).1 (Nat.not_le_of_lt n134))).ext E242).ext E256).ext E281)) hb307
  have n314 : b149 < b306 := Nat.lt_of_lt_of_le (Blk.lt (((((((((hB160.ext E175).ext E185).ext E194).kl K204 (fun hc => absurd (Nat.lt_of_lt_of_le (hw110.1 _ hc).2 (Nat.le_trans (Nat.le_trans (Nat.le_trans (Below.size E114) (Nat.le_of_eq (Eq.symm (Wr.size W120)))) (Below.size E125)) hb150)) (Nat.lt_irrefl _))).ext E225).kl K235 (fun hc => absurd (Nat.lt_of_lt_of_le (hw148.1 _ hc).2 (Nat.le_trans (Nat.le_refl _) hb150)) (Nat.lt_irrefl _))).ext E242).ext E256).ext E281)) hb307
  have g315 : w.heap.size ≤ b306 := Nat.le_trans (Below.size X287) hb307
  change Blk _ _ [(Fl 0), (Fl 0), (Fl 0), (Fl 0), (Iv 0), (Iv 0), (Iv 0), (.slice none 0 0)] at hB308
  have X316 := Ext.gr X287 E309
  show wpList _ _ _ _ (fr [(.agg #[(Fl r1), (Fl r3), (Fl r5), (Fl r7), (Iv A_g.x), (Iv A_g.y), (Iv A_g.z), (.slice p11 A_g.vals.length q12)]), (Pt b15 0), (Bo false), (Iv i26), (Pt b75 0), (Bo (halOk A_g)), (Pt b111 0), (Pt b149 0), (Bo (halOk A_g)), (Iv (1 + (A_g.vals.length : Int) * 1)), (Iv (1 + (((halR A_g).vals).length : Int) * 1)), (Iv (1 + ((mkL fF 1 1 ((halR A_g).vals).length).length : Int) * 1)), (Pt b306 0), Ud, (.agg #[(Fl r1), (Fl r3), (Fl r5), (Fl r7), (Iv A_g.x), (Iv A_g.y), (Iv A_g.z), (.slice p11 A_g.vals.length q12)]), (Iv 1048576), (Iv i26), (Iv i26), (Bo (icmp .lss i26 0)), (.tuple #[(.agg #[(Fl r62), (Fl r64), (Fl r66), (Fl r68), (Iv ((halR A_g).x)), (Iv ((halR A_g).y)), (Iv ((halR A_g).z)), (.slice p72 (((halR A_g).vals).length) q73)]), (Bo (halOk A_g))]), (.agg #[(Fl r1), (Fl r3), (Fl r5), (Fl r7), (Iv A_g.x), (Iv A_g.y), (Iv A_g.z), (.slice p11 A_g.vals.length q12)]), (.agg #[(Fl r42), (Fl r44), (Fl r46), (Fl r48), (Iv A_g.x), (Iv A_g.y), (Iv A_g.z), (.slice p52 A_g.vals.length q53)]), (.tuple #[(.agg #[(Fl r62), (Fl r64), (Fl r66), (Fl r68), (Iv ((halR A_g).x)), (Iv ((halR A_g).y)), (Iv ((halR A_g).z)), (.slice p72 (((halR A_g).vals).length) q73)]), (Bo (halOk A_g))]), (.agg #[(Fl r62), (Fl r64), (Fl r66), (Fl r68), (Iv ((halR A_g).x)), (Iv ((halR A_g).y)), (Iv ((halR A_g).z)), (.slice p72 (((halR A_g).vals).length) q73)]), (Bo (halOk A_g)), (.agg #[(Fl r1), (Fl r3), (Fl r5), (Fl r7), (Iv A_g.x), (Iv A_g.y), (Iv A_g.z), (.slice p11 A_g.vals.length q12)]), (.agg #[(Fl r97), (Fl r99), (Fl r101), (Fl r103), (Iv A_g.x), (Iv A_g.y), (Iv A_g.z), (.slice p107 A_g.vals.length q108)]), (.tuple #[(.agg #[(Fl r135), (Fl r137), (Fl r139), (Fl r141), (Iv ((halR A_g).x)), (Iv ((halR A_g).y)), (Iv ((halR A_g).z)), (.slice p145 (((halR A_g).vals).length) q146)]), (Bo (halOk A_g))]), (.agg #[(Fl r97), (Fl r99), (Fl r101), (Fl r103), (Iv A_g.x), (Iv A_g.y), (Iv A_g.z), (.slice p107 A_g.vals.length q108)]), (.tuple #[(.agg #[(Fl r135), (Fl r137), (Fl r139), (Fl r141), (Iv ((halR A_g).x)), (Iv ((halR A_g).y)), (Iv ((halR A_g).z)), (.slice p145 (((halR A_g).vals).length) q146)]), (Bo (halOk A_g))]), (.agg #[(Fl r135), (Fl r137), (Fl r139), (Fl r141), (Iv ((halR A_g).x)), (Iv ((halR A_g).y)), (Iv ((halR A_g).z)), (.slice p145 (((halR A_g).vals).length) q146)]), (Bo (halOk A_g)), v165, v166, v167, v168, v169, v170, v171, v172, (Bo ((!β1) || β2)), v188, v189, v190, v191, (Bo (!(sameG A_g A_g))), (.agg #[(Fl r97), (Fl r99), (Fl r101), (Fl r103), (Iv A_g.x), (Iv A_g.y), (Iv A_g.z), (.slice p107 A_g.vals.length q108)]), (Iv 1), (Iv (1 + (A_g.vals.length : Int) * 1)), v211, v212, v213, v214, v215, v216, v217, v218, v219, v220, v221, v222, (Bo ((β3 || (!β4)) || β5)), (.agg #[(Fl r135), (Fl r137), (Fl r139), (Fl r141), (Iv ((halR A_g).x)), (Iv ((halR A_g).y)), (Iv ((halR A_g).z)), (.slice p145 (((halR A_g).vals).length) q146)]), (Iv 1), (Iv (1 + (((halR A_g).vals).length : Int) * 1)), (.agg #[(Fl r135), (Fl r137), (Fl r139), (Fl r141), (Iv ((halR A_g).x)), (Iv ((halR A_g).y)), (Iv ((halR A_g).z)), (.slice p145 (((halR A_g).vals).length) q146)]), (Iv 1), (Iv (1 + ((mkL fF 1 1 ((halR A_g).vals).length).length : Int) * 1)), (Iv (1 + ((mkL fF 1 1 ((halR A_g).vals).length).length : Int) * 1)), (Bo (icmp .lss (1 + ((mkL fF 1 1 ((halR A_g).vals).length).length : Int) * 1) 0)), (Iv (1 + ((mkL fF 1 1 ((halR A_g).vals).length).length : Int) * 1)), (Iv (1 + (((halR A_g).vals).length : Int) * 1)), (Bo (icmp .neq (1 + ((mkL fF 1 1 ((halR A_g).vals).length).length : Int) * 1) (1 + (((halR A_g).vals).length : Int) * 1))), (.tuple #[(.agg #[(Fl r292), (Fl r294), (Fl r296), (Fl r298), (Iv ((halR A_g).x)), (Iv ((halR A_g).y)), (Iv ((halR A_g).z)), (.slice p302 (((halR A_g).vals).length) q303)]), (Bo (halOk A_g))]), (.agg #[(Fl r1), (Fl r3), (Fl r5), (Fl r7), (Iv A_g.x), (Iv A_g.y), (Iv A_g.z), (.slice p11 A_g.vals.length q12)]), (.agg #[(Fl r267), (Fl r269), (Fl r271), (Fl r273), (Iv A_g.x), (Iv A_g.y), (Iv A_g.z), (.slice p277 A_g.vals.length q278)]), (.tuple #[(.agg #[(Fl r292), (Fl r294), (Fl r296), (Fl r298), (Iv ((halR A_g).x)), (Iv ((halR A_g).y)), (Iv ((halR A_g).z)), (.slice p302 (((halR A_g).vals).length) q303)]), (Bo (halOk A_g))]), (.agg #[(Fl r292), (Fl r294), (Fl r296), (Fl r298), (Iv ((halR A_g).x)), (Iv ((halR A_g).y)), (Iv ((halR A_g).z)), (.slice p302 (((halR A_g).vals).length) q303)]), (Bo (halOk A_g)), Ud, Ud, Ud, Ud, Ud, Ud, Ud, Ud, Ud, Ud, Ud, Ud, Ud, Ud, Ud, Ud, Ud]) _
  refine seqn rfl rfl (does_store (n := 8) (cs := [(Fl 0), (Fl 0), (Fl 0), (Fl 0), (Iv 0), (Iv 0), (Iv 0), (.slice none 0 0)]) (u := (.agg #[(Fl r292), (Fl r294), (Fl r296), (Fl r298), (Iv ((halR A_g).x)), (Iv ((halR A_g).y)), (Iv ((halR A_g).z)), (.slice p302 (((halR A_g).vals).length) q303)])) (ev rfl) (ev rfl) Try.sizeOf31 rfl hB308 (Nat.le_of_ble_eq_true rfl) rfl) ?_; rintro _ w319 ⟨rfl, W317, hB318⟩
  change Blk _ _ [(Fl r292), (Fl r294), (Fl r296), (Fl r298), (Iv ((halR A_g).x)), (Iv ((halR A_g).y)), (Iv ((halR A_g).z)), (.slice p302 (((halR A_g).vals).length) q303)] at hB318
  have X320 := Below.wr X316 W317 g315
  refine q_is rfl rfl (does_assign (u := (Bo (halOk A_g))) (ev rfl)) (by dsimp only [List.set]; try rfl) ?_
  refine wpList_nil (hK255 _ _ ?_)
  refine wp_seq_k fun K321 hK321 => ?_
  refine wp_seq_k fun K322 hK322 => ?_
  obtain ⟨β6, hβ6⟩ : ∃ b : Bool, b = (sameG (halR A_g) (halR A_g)) := ⟨_, rfl⟩
  obtain ⟨β7, hβ7⟩ : ∃ b : Bool, b = ((halOk A_g) != (halOk A_g)) := ⟨_, rfl⟩
  refine region_text (
    [Fact.pure [] (fun v => v = (.agg #[(Fl r292), (Fl r294), (Fl r296), (Fl r298), (Iv ((halR A_g).x)), (Iv ((halR A_g).y)), (Iv ((halR A_g).z)), (.slice p302 (((halR A_g).vals).length) q303)])),
    Fact.pure [] (fun v => v = (.agg #[(Fl r62), (Fl r64), (Fl r66), (Fl r68), (Iv ((halR A_g).x)), (Iv ((halR A_g).y)), (Iv ((halR A_g).z)), (.slice p72 (((halR A_g).vals).length) q73)])),
    Fact.pure [79, 80] (fun v => v = (Bo β6)),
    Fact.pure [81] (fun v => v = (Bo (!β6))),
    Fact.pure [82] (fun v => v = (Bo (!β6))),
    Fact.pure [83] (fun v => (!β6) = false → v = (Bo (halOk A_g))),
    Fact.pure [83] (fun v => (!β6) = false → v = (Bo (halOk A_g))),
    Fact.pure [84, 85, 83] (fun v => (!β6) = false → v = (Bo β7)),
    Fact.pure [83, 86] (fun v => v = (Bo ((!β6) || β7)))]) (by simp [Fact.pure, Fact.mem]) ?_
  refine RW_d _ rfl (fun v => by dsimp only [List.set]; try rfl) (fun u hu hF => ?_) (fun v323 => ?_)
  · clear hF
    refine doesG_un rfl ?_
    refine (does_loadAgg (cs := [(Fl r292), (Fl r294), (Fl r296), (Fl r298), (Iv ((halR A_g).x)), (Iv ((halR A_g).y)), (Iv ((halR A_g).z)), (.slice p302 (((halR A_g).vals).length) q303)]) (ev rfl) Try.isAgg31 Try.sizeOf31 (Blk.cells (hB318.ext hu)) rfl).mono ?_; rintro _ _ ⟨rfl, rfl⟩
    exact ⟨rfl, Ext.refl _⟩
  refine RW_d _ rfl (fun v => by dsimp only [List.set]; try rfl) (fun u hu hF => ?_) (fun v324 => ?_)
  · clear hF
    refine doesG_un rfl ?_
    refine (does_loadAgg (cs := [(Fl r62), (Fl r64), (Fl r66), (Fl r68), (Iv ((halR A_g).x)), (Iv ((halR A_g).y)), (Iv ((halR A_g).z)), (.slice p72 (((halR A_g).vals).length) q73)]) (ev rfl) Try.isAgg31 Try.sizeOf31 (Blk.cells ((((((((((((((((((hB84.ext E88).ext E114).wr W120 (Nat.ne_of_lt n117)).ext E125).ext E152).wr W159 (Nat.ne_of_lt n155)).ext E175).ext E185).ext E194).kl K204 (fun hc => absurd (hw110.1 _ hc).1 (Nat.not_le_of_lt n96))).ext E225).kl K235 (fun hc => absurd (hw148.1 _ hc).1 (Nat.not_le_of_lt n133))).ext E242).ext E256).ext E281).ext E309).wr W317 (Nat.ne_of_lt n312)).ext hu)) rfl).mono ?_; rintro _ _ ⟨rfl, rfl⟩
    exact ⟨rfl, Ext.refl _⟩
  refine RW_d _ rfl (fun v => by dsimp only [List.set]; try rfl) (fun u hu hF => ?_) (fun v325 => ?_)
  · have h79_ : v323 = (.agg #[(Fl r292), (Fl r294), (Fl r296), (Fl r298), (Iv ((halR A_g).x)), (Iv ((halR A_g).y)), (Iv ((halR A_g).z)), (.slice p302 (((halR A_g).vals).length) q303)]) := hF.1
    have h80_ : v324 = (.agg #[(Fl r62), (Fl r64), (Fl r66), (Fl r68), (Iv ((halR A_g).x)), (Iv ((halR A_g).y)), (Iv ((halR A_g).z)), (.slice p72 (((halR A_g).vals).length) q73)]) := hF.2.1
    clear hF
    refine doesG_un rfl ?_
    obtain rfl := h79_
    obtain rfl := h80_
    refine (does_call (args := #[(.agg #[(Fl r292), (Fl r294), (Fl r296), (Fl r298), (Iv ((halR A_g).x)), (Iv ((halR A_g).y)), (Iv ((halR A_g).z)), (.slice p302 (((halR A_g).vals).length) q303)]), (.agg #[(Fl r62), (Fl r64), (Fl r66), (Fl r68), (Iv ((halR A_g).x)), (Iv ((halR A_g).y)), (Iv ((halR A_g).z)), (.slice p72 (((halR A_g).vals).length) q73)])]) cal11 (evs rfl) (c_laws_eqGrid [(Fl r292), (Fl r294), (Fl r296), (Fl r298), (Iv ((halR A_g).x)), (Iv ((halR A_g).y)), (Iv ((halR A_g).z)), (.slice p302 (((halR A_g).vals).length) q303)] (halR A_g) [(Fl r62), (Fl r64), (Fl r66), (Fl r68), (Iv ((halR A_g).x)), (Iv ((halR A_g).y)), (Iv ((halR A_g).z)), (.slice p72 (((halR A_g).vals).length) q73)] (halR A_g) _ ⟨r292, r294, r296, r298, (.slice p302 (((halR A_g).vals).length) q303), rfl, h293, h295, h297, h299, (Sl.ext (hh304 _ (((Same.refl _ _).ext E309).wr W317 (.inr (Nat.le_trans (Below.size (Ext.refl _)) hb307)))) RF.mono hu)⟩ ⟨r62, r64, r66, r68, (.slice p72 (((halR A_g).vals).length) q73), rfl, h63, h65, h67, h69, (Sl.ext (hh74 _ ((((((((((((((((((((Same.refl _ _).ext E78).wr W83 (.inr (Nat.le_trans (Below.size (Ext.refl _)) hb76))).ext E88).ext E114).wr W120 (.inr (Nat.le_trans (Below.size (Ext.gr (Below.wr (Ext.gr (Ext.refl _) E78) W83 (Nat.le_trans (Below.size (Ext.refl _)) hb76)) E88)) hb112))).ext E125).ext E152).wr W159 (.inr (Nat.le_trans (Below.size (Ext.gr (Below.wr (Ext.gr (Ext.gr (Below.wr (Ext.gr (Ext.refl _) E78) W83 (Nat.le_trans (Below.size (Ext.refl _)) hb76)) E88) E114) W120 (Nat.le_trans (Below.size (Ext.gr (Below.wr (Ext.gr (Ext.refl _) E78) W83 (Nat.le_trans (Below.size (Ext.refl _)) hb76)) E88)) hb112)) E125)) hb150))).ext E175).ext E185).ext E194).kl K204 (fun c hc => .inr (Nat.le_trans (Nat.le_trans (Below.size E78) (Nat.le_of_eq (Eq.symm (Wr.size W83)))) (hw110.1 c hc).1))).ext E225).kl K235 (fun c hc => .inr (Nat.le_trans (Nat.le_trans (Nat.le_trans (Nat.le_trans (Nat.le_trans (Below.size E78) (Nat.le_of_eq (Eq.symm (Wr.size W83)))) (Below.size E88)) (Below.size E114)) (Nat.le_of_eq (Eq.symm (Wr.size W120)))) (hw148.1 c hc).1))).ext E242).ext E256).ext E281).ext E309).wr W317 (.inr (Nat.le_trans (Below.size (Ext.gr (Ext.gr (Ext.gr (Below.kl (Ext.gr (Below.kl (Ext.gr (Ext.gr (Ext.gr (Below.wr (Ext.gr (Ext.gr (Below.wr (Ext.gr (Ext.gr (Below.wr (Ext.gr (Ext.refl _) E78) W83 (Nat.le_trans (Below.size (Ext.refl _)) hb76)) E88) E114) W120 (Nat.le_trans (Below.size (Ext.gr (Below.wr (Ext.gr (Ext.refl _) E78) W83 (Nat.le_trans (Below.size (Ext.refl _)) hb76)) E88)) hb112)) E125) E152) W159 (Nat.le_trans (Below.size (Ext.gr (Below.wr (Ext.gr (Ext.gr (Below.wr (Ext.gr (Ext.refl _) E78) W83 (Nat.le_trans (Below.size (Ext.refl _)) hb76)) E88) E114) W120 (Nat.le_trans (Below.size (Ext.gr (Below.wr (Ext.gr (Ext.refl _) E78) W83 (Nat.le_trans (Below.size (Ext.refl _)) hb76)) E88)) hb112)) E125)) hb150)) E175) E185) E194) K204 (fun c hc => Nat.le_trans (Below.size (Below.wr (Ext.gr (Ext.refl _) E78) W83 (Nat.le_trans (Below.size (Ext.refl _)) hb76))) (hw110.1 c hc).1) (Nat.le_refl _)) E225) K235 (fun c hc => Nat.le_trans (Below.size (Below.wr (Ext.gr (Ext.gr (Below.wr (Ext.gr (Ext.refl _) E78) W83 (Nat.le_trans (Below.size (Ext.refl _)) hb76)) E88) E114) W120 (Nat.le_trans (Below.size (Ext.gr (Below.wr (Ext.gr (Ext.refl _) E78) W83 (Nat.le_trans (Below.size (Ext.refl _)) hb76)) E88)) hb112))) (hw148.1 c hc).1) (Nat.le_refl _)) E242) E256) E281)) hb307)))) RF.mono hu)⟩)).mono ?_; rintro v u' ⟨hx, hv⟩
    exact ⟨hv.trans (by simp only [hβ6]), hx⟩
  refine RW_d _ rfl (fun v => by dsimp only [List.set]; try rfl) (fun u hu hF => ?_) (fun v326 => ?_)
  · have h81_ : v325 = (Bo β6) := hF.1
    clear hF
    refine doesG_un rfl ?_
    obtain rfl := h81_
    refine (does_not (ev rfl)).mono ?_; rintro _ _ ⟨rfl, rfl⟩
    exact ⟨rfl, Ext.refl _⟩
  refine RW_d _ rfl (fun v => by dsimp only [List.set]; try rfl) (fun u hu hF => ?_) (fun v327 => ?_)
  · have h82_ : v326 = (Bo (!β6)) := hF.1
    clear hF
    refine doesG_un rfl ?_
    obtain rfl := h82_
    refine (does_move (u := (Bo (!β6))) (ev rfl)).mono ?_; rintro _ _ ⟨rfl, rfl⟩
    exact ⟨rfl, Ext.refl _⟩
  refine RW_d _ rfl (fun v => by dsimp only [List.set]; try rfl) (fun u hu hF => ?_) (fun v328 => ?_)
  · have h83_ : v327 = (Bo (!β6)) := hF.1
    clear hF
    obtain rfl := h83_
    refine doesG_g (b := (!β6)) rfl (yld rfl rfl) (fun hg1 => ?_) (fun hc => ⟨fun hg1 => absurd hg1 hc, Ext.refl _⟩)
    refine (does_move (u := (Bo (halOk A_g))) (ev rfl)).mono ?_; rintro _ _ ⟨rfl, rfl⟩
    exact ⟨fun _ => rfl, Ext.refl _⟩
  refine RW_d _ rfl (fun v => by dsimp only [List.set]; try rfl) (fun u hu hF => ?_) (fun v329 => ?_)
  · have h83_ : v327 = (Bo (!β6)) := hF.1
    clear hF
    obtain rfl := h83_
    refine doesG_g (b := (!β6)) rfl (yld rfl rfl) (fun hg1 => ?_) (fun hc => ⟨fun hg1 => absurd hg1 hc, Ext.refl _⟩)
    refine (does_move (u := (Bo (halOk A_g))) (ev rfl)).mono ?_; rintro _ _ ⟨rfl, rfl⟩
    exact ⟨fun _ => rfl, Ext.refl _⟩
  refine RW_d _ rfl (fun v => by dsimp only [List.set]; try rfl) (fun u hu hF => ?_) (fun v330 => ?_)
  · have h84_ : (!β6) = false → v328 = (Bo (halOk A_g)) := hF.1
    have h85_ : (!β6) = false → v329 = (Bo (halOk A_g)) := hF.2.1
    have h83_ : v327 = (Bo (!β6)) := hF.2.2.1
    clear hF
    obtain rfl := h83_
    refine doesG_g (b := (!β6)) rfl (yld rfl rfl) (fun hg1 => ?_) (fun hc => ⟨fun hg1 => absurd hg1 hc, Ext.refl _⟩)
    obtain rfl := h84_ hg1
    obtain rfl := h85_ hg1
    refine (does_bne (p := (halOk A_g)) (q := (halOk A_g)) Try.underlying4 (ev rfl) (ev rfl)).mono ?_; rintro _ _ ⟨rfl, rfl⟩
    exact ⟨fun _ => (by first | rfl | (show _ = _; simp only [hβ7])), Ext.refl _⟩
  refine RW_d _ rfl (fun v => by dsimp only [List.set]; try rfl) (fun u hu hF => ?_) (fun v331 => ?_)
  · have h83_ : v327 = (Bo (!β6)) := hF.1
    have h86_ : (!β6) = false → v330 = (Bo β7) := hF.2.1
    clear hF
    refine doesG_un rfl ?_
    skip
    obtain rfl := h83_
    refine (does_pick (b := (!β6)) (ev rfl) (ev rfl) (ev rfl)).mono ?_; rintro _ _ ⟨rfl, rfl⟩; refine ⟨?_, Ext.refl _⟩; skip
    cases hbb : (!β6) <;> simp [hbb] at h86_ ⊢
    all_goals (first | rfl | (subst h86_; rfl) | simp_all)
  refine RW_fin ?_; intro w332 E333 hP334
  obtain ⟨⟨⟨⟨⟨⟨⟨⟨⟨-, -⟩, -⟩, -⟩, -⟩, -⟩, -⟩, -⟩, -⟩, q335⟩ := hP334
  have X336 := Ext.gr X320 E333
  have q335 : v331 = (Bo ((!β6) || β7)) := q335
  obtain rfl := q335
  show wpList _ _ _ _ (fr [(.agg #[(Fl r1), (Fl r3), (Fl r5), (Fl r7), (Iv A_g.x), (Iv A_g.y), (Iv A_g.z), (.slice p11 A_g.vals.length q12)]), (Pt b15 0), (Bo false), (Iv i26), (Pt b75 0), (Bo (halOk A_g)), (Pt b111 0), (Pt b149 0), (Bo (halOk A_g)), (Iv (1 + (A_g.vals.length : Int) * 1)), (Iv (1 + (((halR A_g).vals).length : Int) * 1)), (Iv (1 + ((mkL fF 1 1 ((halR A_g).vals).length).length : Int) * 1)), (Pt b306 0), (Bo (halOk A_g)), (.agg #[(Fl r1), (Fl r3), (Fl r5), (Fl r7), (Iv A_g.x), (Iv A_g.y), (Iv A_g.z), (.slice p11 A_g.vals.length q12)]), (Iv 1048576), (Iv i26), (Iv i26), (Bo (icmp .lss i26 0)), (.tuple #[(.agg #[(Fl r62), (Fl r64), (Fl r66), (Fl r68), (Iv ((halR A_g).x)), (Iv ((halR A_g).y)), (Iv ((halR A_g).z)), (.slice p72 (((halR A_g).vals).length) q73)]), (Bo (halOk A_g))]), (.agg #[(Fl r1), (Fl r3), (Fl r5), (Fl r7), (Iv A_g.x), (Iv A_g.y), (Iv A_g.z), (.slice p11 A_g.vals.length q12)]), (.agg #[(Fl r42), (Fl r44), (Fl r46), (Fl r48), (Iv A_g.x), (Iv A_g.y), (Iv A_g.z), (.slice p52 A_g.vals.length q53)]), (.tuple #[(.agg #[(Fl r62), (Fl r64), (Fl r66), (Fl r68), (Iv ((halR A_g).x)), (Iv ((halR A_g).y)), (Iv ((halR A_g).z)), (.slice p72 (((halR A_g).vals).length) q73)]), (Bo (halOk A_g))]), (.agg #[(Fl r62), (Fl r64), (Fl r66), (Fl r68), (Iv ((halR A_g).x)), (Iv ((halR A_g).y)), (Iv ((halR A_g).z)), (.slice p72 (((halR A_g).vals).length) q73)]), (Bo (halOk A_g)), (.agg #[(Fl r1), (Fl r3), (Fl r5), (Fl r7), (Iv A_g.x), (Iv A_g.y), (Iv A_g.z), (.slice p11 A_g.vals.length q12)]), (.agg #[(Fl r97), (Fl r99), (Fl r101), (Fl r103), (Iv A_g.x), (Iv A_g.y), (Iv A_g.z), (.slice p107 A_g.vals.length q108)]), (.tuple #[(.agg #[(Fl r135), (Fl r137), (Fl r139), (Fl r141), (Iv ((halR A_g).x)), (Iv ((halR A_g).y)), (Iv ((halR A_g).z)), (.slice p145 (((halR A_g).vals).length) q146)]), (Bo (halOk A_g))]), (.agg #[(Fl r97), (Fl r99), (Fl r101), (Fl r103), (Iv A_g.x), (Iv A_g.y), (Iv A_g.z), (.slice p107 A_g.vals.length q108)]), (.tuple #[(.agg #[(Fl r135), (Fl r137), (Fl r139), (Fl r141), (Iv ((halR A_g).x)), (Iv ((halR A_g).y)), (Iv ((halR A_g).z)), (.slice p145 (((halR A_g).vals).length) q146)]), (Bo (halOk A_g))]), (.agg #[(Fl r135), (Fl r137), (Fl r139), (Fl r141), (Iv ((halR A_g).x)), (Iv ((halR A_g).y)), (Iv ((halR A_g).z)), (.slice p145 (((halR A_g).vals).length) q146)]), (Bo (halOk A_g)), v165, v166, v167, v168, v169, v170, v171, v172, (Bo ((!β1) || β2)), v188, v189, v190, v191, (Bo (!(sameG A_g A_g))), (.agg #[(Fl r97), (Fl r99), (Fl r101), (Fl r103), (Iv A_g.x), (Iv A_g.y), (Iv A_g.z), (.slice p107 A_g.vals.length q108)]), (Iv 1), (Iv (1 + (A_g.vals.length : Int) * 1)), v211, v212, v213, v214, v215, v216, v217, v218, v219, v220, v221, v222, (Bo ((β3 || (!β4)) || β5)), (.agg #[(Fl r135), (Fl r137), (Fl r139), (Fl r141), (Iv ((halR A_g).x)), (Iv ((halR A_g).y)), (Iv ((halR A_g).z)), (.slice p145 (((halR A_g).vals).length) q146)]), (Iv 1), (Iv (1 + (((halR A_g).vals).length : Int) * 1)), (.agg #[(Fl r135), (Fl r137), (Fl r139), (Fl r141), (Iv ((halR A_g).x)), (Iv ((halR A_g).y)), (Iv ((halR A_g).z)), (.slice p145 (((halR A_g).vals).length) q146)]), (Iv 1), (Iv (1 + ((mkL fF 1 1 ((halR A_g).vals).length).length : Int) * 1)), (Iv (1 + ((mkL fF 1 1 ((halR A_g).vals).length).length : Int) * 1)), (Bo (icmp .lss (1 + ((mkL fF 1 1 ((halR A_g).vals).length).length : Int) * 1) 0)), (Iv (1 + ((mkL fF 1 1 ((halR A_g).vals).length).length : Int) * 1)), (Iv (1 + (((halR A_g).vals).length : Int) * 1)), (Bo (icmp .neq (1 + ((mkL fF 1 1 ((halR A_g).vals).length).length : Int) * 1) (1 + (((halR A_g).vals).length : Int) * 1))), (.tuple #[(.agg #[(Fl r292), (Fl r294), (Fl r296), (Fl r298), (Iv ((halR A_g).x)), (Iv ((halR A_g).y)), (Iv ((halR A_g).z)), (.slice p302 (((halR A_g).vals).length) q303)]), (Bo (halOk A_g))]), (.agg #[(Fl r1), (Fl r3), (Fl r5), (Fl r7), (Iv A_g.x), (Iv A_g.y), (Iv A_g.z), (.slice p11 A_g.vals.length q12)]), (.agg #[(Fl r267), (Fl r269), (Fl r271), (Fl r273), (Iv A_g.x), (Iv A_g.y), (Iv A_g.z), (.slice p277 A_g.vals.length q278)]), (.tuple #[(.agg #[(Fl r292), (Fl r294), (Fl r296), (Fl r298), (Iv ((halR A_g).x)), (Iv ((halR A_g).y)), (Iv ((halR A_g).z)), (.slice p302 (((halR A_g).vals).length) q303)]), (Bo (halOk A_g))]), (.agg #[(Fl r292), (Fl r294), (Fl r296), (Fl r298), (Iv ((halR A_g).x)), (Iv ((halR A_g).y)), (Iv ((halR A_g).z)), (.slice p302 (((halR A_g).vals).length) q303)]), (Bo (halOk A_g)), v323, v324, v325, v326, v327, v328, v329, v330, (Bo ((!β6) || β7)), Ud, Ud, Ud, Ud, Ud, Ud, Ud, Ud]) _
  refine wpList_nil (hK322 _ _ ?_)
  refine wp_cond_split (t := (!β6) || β7) (ev rfl) (fun c337 => ?_) (fun c337 => ?_)
  · have c337' := c337
    (try simp only [hβ1, hβ2, hβ3, hβ4, hβ5, hβ6, hβ7, sameG_self, bne_self_eq_false] at c337')
    (try simp only [hβ1, hβ2, hβ3, hβ4, hβ5, hβ6, hβ7] at c337')
    (try simp only [icmp, Bool.and_eq_true, Bool.or_eq_true, Bool.and_eq_false_iff, Bool.or_eq_false_iff, Bool.not_eq_true', Bool.not_eq_false', decide_eq_true_eq, decide_eq_false_iff_not, beq_iff_eq, bne_iff_ne, beq_eq_false_iff_ne, bne_eq_false_iff_eq] at c337')
    refine wp_seq_k fun K338 hK338 => ?_
    refine wp_region_lit ?_
    refine q_is rfl rfl (does_assign (u := (Bo false)) (ev rfl)) (by dsimp only [List.set]; try rfl) ?_
    refine wpList_nil (hK338 _ _ ?_)
    refine wp_ret ?_
    dsimp only [Exit.then, Exit.inBlock]
    refine ret_val (v := (Bo false)) (res_T rfl (slot rfl)) X336 ?_
    try simp only [h2, h4, h6, h8, h43, h45, h47, h49, h63, h65, h67, h69, h98, h100, h102, h104, h136, h138, h140, h142, hβ1, hβ2, hβ3, hβ4, hβ5, h268, h270, h272, h274, h293, h295, h297, h299, hβ6, hβ7, sameG_self, bne_self_eq_false] at c31 c179 c198 c229 c247 c252 c337
    have x339 : true = false := by first | with_reducible rfl | (exfalso; omega) | (exfalso; simp only [mkL_len] at * <;> omega) | (exfalso; rcases c337' with (hh | hh) | hh <;> first | omega | (exact Bool.noConfusion hh)) | (exfalso; rcases c337' with hh | hh <;> first | omega | (exact Bool.noConfusion hh)) | (simp only [sameG_self, bne_self_eq_false, h2, h4, h6, h8, h43, h45, h47, h49, h63, h65, h67, h69, h98, h100, h102, h104, h136, h138, h140, h142, hβ1, hβ2, hβ3, hβ4, hβ5, h268, h270, h272, h274, h293, h295, h297, h299, hβ6, hβ7, c31, c179, c198, c229, c247, c252, c337]; done) | (simp [sameG_self, bne_self_eq_false, h2, h4, h6, h8, h43, h45, h47, h49, h63, h65, h67, h69, h98, h100, h102, h104, h136, h138, h140, h142, hβ1, hβ2, hβ3, hβ4, hβ5, h268, h270, h272, h274, h293, h295, h297, h299, hβ6, hβ7, c31, c179, c198, c229, c247, c252, c337]; done) | (simp_all; done) | (exfalso; simp_all; done)
    exact (by first | rfl | rw [x339])
  have c337' := c337
  (try simp only [hβ1, hβ2, hβ3, hβ4, hβ5, hβ6, hβ7, sameG_self, bne_self_eq_false] at c337')
  (try simp only [hβ1, hβ2, hβ3, hβ4, hβ5, hβ6, hβ7] at c337')
  (try simp only [icmp, Bool.and_eq_true, Bool.or_eq_true, Bool.and_eq_false_iff, Bool.or_eq_false_iff, Bool.not_eq_true', Bool.not_eq_false', decide_eq_true_eq, decide_eq_false_iff_not, beq_iff_eq, bne_iff_ne, beq_eq_false_iff_ne, bne_eq_false_iff_eq] at c337')
  refine wp_skip (hK321 _ _ ?_)
  refine wp_seq_k fun K340 hK340 => ?_
  refine wp_region_lit ?_
  refine q_is rfl rfl (does_assign (u := (Iv 1)) (ev rfl)) (by dsimp only [List.set]; try rfl) ?_
  refine wpList_nil (hK340 _ _ ?_)
  refine wp_seq_k fun K341 hK341 => ?_
  refine wp_region_lit ?_
  refine q_is rfl rfl (does_loadAgg (cs := [(Fl r135), (Fl r137), (Fl r139), (Fl r141), (Iv ((halR A_g).x)), (Iv ((halR A_g).y)), (Iv ((halR A_g).z)), (.slice p145 (((halR A_g).vals).length) q146)]) (ev rfl) Try.isAgg31 Try.sizeOf31 (Blk.cells ((((((((((((hB160.ext E175).ext E185).ext E194).kl K204 (fun hc => absurd (Nat.lt_of_lt_of_le (hw110.1 _ hc).2 (Nat.le_trans (Nat.le_trans (Nat.le_trans (Below.size E114) (Nat.le_of_eq (Eq.symm (Wr.size W120)))) (Below.size E125)) hb150)) (Nat.lt_irrefl _))).ext E225).kl K235 (fun hc => absurd (Nat.lt_of_lt_of_le (hw148.1 _ hc).2 (Nat.le_trans (Nat.le_refl _) hb150)) (Nat.lt_irrefl _))).ext E242).ext E256).ext E281).ext E309).wr W317 (Nat.ne_of_lt n314)).ext E333)) rfl) (by dsimp only [List.set]; try rfl) ?_
  refine q_is rfl rfl (does_move (u := (Iv 1)) (ev rfl)) (by dsimp only [List.set]; try rfl) ?_
  refine seqd rfl rfl (does_call (args := #[(.agg #[(Fl r135), (Fl r137), (Fl r139), (Fl r141), (Iv ((halR A_g).x)), (Iv ((halR A_g).y)), (Iv ((halR A_g).z)), (.slice p145 (((halR A_g).vals).length) q146)]), (Iv 1)]) cal13 (evs rfl) (c_laws_heldGrid [(Fl r135), (Fl r137), (Fl r139), (Fl r141), (Iv ((halR A_g).x)), (Iv ((halR A_g).y)), (Iv ((halR A_g).z)), (.slice p145 (((halR A_g).vals).length) q146)] (GridT.mk (halR A_g).low ((halR A_g).step) ((halR A_g).x) ((halR A_g).y) ((halR A_g).z) (mkL fF 1 1 ((halR A_g).vals).length)) 1 _ ⟨r135, r137, r139, r141, (.slice p145 (((halR A_g).vals).length) q146), rfl, h136, h138, h140, h142, (hM236 _ (((((((Same.refl _ _).ext E242).ext E256).ext E281).ext E309).wr W317 (.inr (Nat.le_trans (Below.size (Ext.gr (Ext.gr (Ext.gr (Ext.refl _) E242) E256) E281)) hb307))).ext E333))⟩ (by exact mkL_eq) (by omega) (by (try dsimp only); rw [mkL_len]; omega))) ?_; rintro _ w343 ⟨E342, rfl⟩
  have X344 := Ext.gr X336 E342
  show wpList _ _ _ _ (fr [(.agg #[(Fl r1), (Fl r3), (Fl r5), (Fl r7), (Iv A_g.x), (Iv A_g.y), (Iv A_g.z), (.slice p11 A_g.vals.length q12)]), (Pt b15 0), (Bo false), (Iv i26), (Pt b75 0), (Bo (halOk A_g)), (Pt b111 0), (Pt b149 0), (Bo (halOk A_g)), (Iv (1 + (A_g.vals.length : Int) * 1)), (Iv (1 + (((halR A_g).vals).length : Int) * 1)), (Iv 1), (Pt b306 0), (Bo (halOk A_g)), (.agg #[(Fl r1), (Fl r3), (Fl r5), (Fl r7), (Iv A_g.x), (Iv A_g.y), (Iv A_g.z), (.slice p11 A_g.vals.length q12)]), (Iv 1048576), (Iv i26), (Iv i26), (Bo (icmp .lss i26 0)), (.tuple #[(.agg #[(Fl r62), (Fl r64), (Fl r66), (Fl r68), (Iv ((halR A_g).x)), (Iv ((halR A_g).y)), (Iv ((halR A_g).z)), (.slice p72 (((halR A_g).vals).length) q73)]), (Bo (halOk A_g))]), (.agg #[(Fl r1), (Fl r3), (Fl r5), (Fl r7), (Iv A_g.x), (Iv A_g.y), (Iv A_g.z), (.slice p11 A_g.vals.length q12)]), (.agg #[(Fl r42), (Fl r44), (Fl r46), (Fl r48), (Iv A_g.x), (Iv A_g.y), (Iv A_g.z), (.slice p52 A_g.vals.length q53)]), (.tuple #[(.agg #[(Fl r62), (Fl r64), (Fl r66), (Fl r68), (Iv ((halR A_g).x)), (Iv ((halR A_g).y)), (Iv ((halR A_g).z)), (.slice p72 (((halR A_g).vals).length) q73)]), (Bo (halOk A_g))]), (.agg #[(Fl r62), (Fl r64), (Fl r66), (Fl r68), (Iv ((halR A_g).x)), (Iv ((halR A_g).y)), (Iv ((halR A_g).z)), (.slice p72 (((halR A_g).vals).length) q73)]), (Bo (halOk A_g)), (.agg #[(Fl r1), (Fl r3), (Fl r5), (Fl r7), (Iv A_g.x), (Iv A_g.y), (Iv A_g.z), (.slice p11 A_g.vals.length q12)]), (.agg #[(Fl r97), (Fl r99), (Fl r101), (Fl r103), (Iv A_g.x), (Iv A_g.y), (Iv A_g.z), (.slice p107 A_g.vals.length q108)]), (.tuple #[(.agg #[(Fl r135), (Fl r137), (Fl r139), (Fl r141), (Iv ((halR A_g).x)), (Iv ((halR A_g).y)), (Iv ((halR A_g).z)), (.slice p145 (((halR A_g).vals).length) q146)]), (Bo (halOk A_g))]), (.agg #[(Fl r97), (Fl r99), (Fl r101), (Fl r103), (Iv A_g.x), (Iv A_g.y), (Iv A_g.z), (.slice p107 A_g.vals.length q108)]), (.tuple #[(.agg #[(Fl r135), (Fl r137), (Fl r139), (Fl r141), (Iv ((halR A_g).x)), (Iv ((halR A_g).y)), (Iv ((halR A_g).z)), (.slice p145 (((halR A_g).vals).length) q146)]), (Bo (halOk A_g))]), (.agg #[(Fl r135), (Fl r137), (Fl r139), (Fl r141), (Iv ((halR A_g).x)), (Iv ((halR A_g).y)), (Iv ((halR A_g).z)), (.slice p145 (((halR A_g).vals).length) q146)]), (Bo (halOk A_g)), v165, v166, v167, v168, v169, v170, v171, v172, (Bo ((!β1) || β2)), v188, v189, v190, v191, (Bo (!(sameG A_g A_g))), (.agg #[(Fl r97), (Fl r99), (Fl r101), (Fl r103), (Iv A_g.x), (Iv A_g.y), (Iv A_g.z), (.slice p107 A_g.vals.length q108)]), (Iv 1), (Iv (1 + (A_g.vals.length : Int) * 1)), v211, v212, v213, v214, v215, v216, v217, v218, v219, v220, v221, v222, (Bo ((β3 || (!β4)) || β5)), (.agg #[(Fl r135), (Fl r137), (Fl r139), (Fl r141), (Iv ((halR A_g).x)), (Iv ((halR A_g).y)), (Iv ((halR A_g).z)), (.slice p145 (((halR A_g).vals).length) q146)]), (Iv 1), (Iv (1 + (((halR A_g).vals).length : Int) * 1)), (.agg #[(Fl r135), (Fl r137), (Fl r139), (Fl r141), (Iv ((halR A_g).x)), (Iv ((halR A_g).y)), (Iv ((halR A_g).z)), (.slice p145 (((halR A_g).vals).length) q146)]), (Iv 1), (Iv (1 + ((mkL fF 1 1 ((halR A_g).vals).length).length : Int) * 1)), (Iv (1 + ((mkL fF 1 1 ((halR A_g).vals).length).length : Int) * 1)), (Bo (icmp .lss (1 + ((mkL fF 1 1 ((halR A_g).vals).length).length : Int) * 1) 0)), (Iv (1 + ((mkL fF 1 1 ((halR A_g).vals).length).length : Int) * 1)), (Iv (1 + (((halR A_g).vals).length : Int) * 1)), (Bo (icmp .neq (1 + ((mkL fF 1 1 ((halR A_g).vals).length).length : Int) * 1) (1 + (((halR A_g).vals).length : Int) * 1))), (.tuple #[(.agg #[(Fl r292), (Fl r294), (Fl r296), (Fl r298), (Iv ((halR A_g).x)), (Iv ((halR A_g).y)), (Iv ((halR A_g).z)), (.slice p302 (((halR A_g).vals).length) q303)]), (Bo (halOk A_g))]), (.agg #[(Fl r1), (Fl r3), (Fl r5), (Fl r7), (Iv A_g.x), (Iv A_g.y), (Iv A_g.z), (.slice p11 A_g.vals.length q12)]), (.agg #[(Fl r267), (Fl r269), (Fl r271), (Fl r273), (Iv A_g.x), (Iv A_g.y), (Iv A_g.z), (.slice p277 A_g.vals.length q278)]), (.tuple #[(.agg #[(Fl r292), (Fl r294), (Fl r296), (Fl r298), (Iv ((halR A_g).x)), (Iv ((halR A_g).y)), (Iv ((halR A_g).z)), (.slice p302 (((halR A_g).vals).length) q303)]), (Bo (halOk A_g))]), (.agg #[(Fl r292), (Fl r294), (Fl r296), (Fl r298), (Iv ((halR A_g).x)), (Iv ((halR A_g).y)), (Iv ((halR A_g).z)), (.slice p302 (((halR A_g).vals).length) q303)]), (Bo (halOk A_g)), v323, v324, v325, v326, v327, v328, v329, v330, (Bo ((!β6) || β7)), (.agg #[(Fl r135), (Fl r137), (Fl r139), (Fl r141), (Iv ((halR A_g).x)), (Iv ((halR A_g).y)), (Iv ((halR A_g).z)), (.slice p145 (((halR A_g).vals).length) q146)]), (Iv 1), (Iv (1 + ((mkL fF 1 1 ((halR A_g).vals).length).length : Int) * 1)), Ud, Ud, Ud, Ud, Ud]) _
  refine q_is rfl rfl (does_assign (u := (Iv (1 + ((mkL fF 1 1 ((halR A_g).vals).length).length : Int) * 1))) (ev rfl)) (by dsimp only [List.set]; try rfl) ?_
  refine wpList_nil (hK341 _ _ ?_)
  refine wp_seq_k fun K345 hK345 => ?_
  refine wp_seq_k fun K346 hK346 => ?_
  refine wp_region_lit ?_
  refine q_is rfl rfl (does_move (u := (Iv (1 + ((mkL fF 1 1 ((halR A_g).vals).length).length : Int) * 1))) (ev rfl)) (by dsimp only [List.set]; try rfl) ?_
  refine q_is rfl rfl (does_icmp (p := 1 + ((mkL fF 1 1 ((halR A_g).vals).length).length : Int) * 1) (q := 0) (.inr (.inr (.inl rfl))) (ev rfl) (ev rfl)) (by dsimp only [List.set]; try rfl) ?_
  refine wpList_nil (hK346 _ _ ?_)
  refine wp_cond_false ((ev (rfl : evl _ _ = .bool (icmp .lss (1 + ((mkL fF 1 1 ((halR A_g).vals).length).length : Int) * 1) 0))).trans (congrArg Value.bool c247)) ?_
  refine wp_skip (hK345 _ _ ?_)
  refine wp_seq_k fun K347 hK347 => ?_
  refine wp_seq_k fun K348 hK348 => ?_
  refine wp_region_lit ?_
  refine q_is rfl rfl (does_move (u := (Iv (1 + ((mkL fF 1 1 ((halR A_g).vals).length).length : Int) * 1))) (ev rfl)) (by dsimp only [List.set]; try rfl) ?_
  refine q_is rfl rfl (does_move (u := (Iv (1 + (((halR A_g).vals).length : Int) * 1))) (ev rfl)) (by dsimp only [List.set]; try rfl) ?_
  refine q_is rfl rfl (does_icmp (p := 1 + ((mkL fF 1 1 ((halR A_g).vals).length).length : Int) * 1) (q := 1 + (((halR A_g).vals).length : Int) * 1) (.inr (.inl rfl)) (ev rfl) (ev rfl)) (by dsimp only [List.set]; try rfl) ?_
  refine wpList_nil (hK348 _ _ ?_)
  refine wp_cond_false ((ev (rfl : evl _ _ = .bool (icmp .neq (1 + ((mkL fF 1 1 ((halR A_g).vals).length).length : Int) * 1) (1 + (((halR A_g).vals).length : Int) * 1)))).trans (congrArg Value.bool c252)) ?_
  refine wp_skip (hK347 _ _ ?_)
  refine wp_seq_k fun K349 hK349 => ?_
  refine wp_region_lit ?_
  refine q_is rfl rfl (does_assign (u := (Bo true)) (ev rfl)) (by dsimp only [List.set]; try rfl) ?_
  refine wpList_nil (hK349 _ _ ?_)
  refine wp_ret ?_
  refine ret_val (v := (Bo true)) (res_T rfl (slot rfl)) X344 ?_
  try simp only [h2, h4, h6, h8, h43, h45, h47, h49, h63, h65, h67, h69, h98, h100, h102, h104, h136, h138, h140, h142, hβ1, hβ2, hβ3, hβ4, hβ5, h268, h270, h272, h274, h293, h295, h297, h299, hβ6, hβ7, sameG_self, bne_self_eq_false] at c31 c179 c198 c229 c247 c252 c337
  exact rfl

end Go.Proofs.Ytffmjlalacnfiaa
