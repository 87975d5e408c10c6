/- contracts of functions, each walked once -/
import Derived.Test.YtbbidfadenmmjaaTy
import Derived.Test.YtbbidfadenmmjaaUni
import Derived.Test.YtbbidfadenmmjaaOwn
namespace Go.Proofs.Ytbbidfadenmmjaa
open Go Go.RowKit
set_option maxRecDepth 100000
set_option maxHeartbeats 3200000
set_option linter.unusedVariables false
set_option linter.unusedSimpArgs false

/- spec.l02Greater -/
theorem c_spec_l02Greater (x : Nat) (y : Nat) (w : World) : Gives Try.prog 78 #[(Fl x), (Fl y)] w (fun v w' => ∃ r_1 : Nat, v = (Fl r_1) ∧ cf .f32 r_1 = fmaxG (cf .f32 x) (cf .f32 y)) := by
  refine enter [(Fl x), (Fl y), Ud, Ud, Ud, Ud, Ud, Ud, Ud, Ud] Try.func78 rfl Try.ntmps78 rfl ?_
  refine wp_seq_k fun K1 hK1 => ?_
  refine wp_region_lit ?_
  refine q_is (l' := [(Fl x), (Fl y), Ud, Ud, (Fl 0), Ud, Ud, Ud, Ud, Ud]) rfl rfl (does_assign (u := (Fl 0)) (ev rfl)) rfl ?_
  refine wpList_nil (hK1 _ _ ?_)
  refine wp_seq_k fun K2 hK2 => ?_
  refine wp_seq_k fun K3 hK3 => ?_
  refine wp_region_lit ?_
  refine q_is (l' := [(Fl x), (Fl y), Ud, Ud, (Fl 0), (Fl y), Ud, Ud, Ud, Ud]) rfl rfl (does_move (u := (Fl y)) (ev rfl)) rfl ?_
  refine q_is (l' := [(Fl x), (Fl y), Ud, Ud, (Fl 0), (Fl y), (Fl x), Ud, Ud, Ud]) rfl rfl (does_move (u := (Fl x)) (ev rfl)) rfl ?_
  refine q_is (l' := [(Fl x), (Fl y), Ud, Ud, (Fl 0), (Fl y), (Fl x), (Bo (fcmp .gtr (ford .f32 (cf .f32 y) (cf .f32 x)))), Ud, Ud]) rfl rfl (does_fcmp (.inr (.inr (.inr (.inr (.inl rfl))))) (ev rfl) (ev rfl)) rfl ?_
  refine wpList_nil (hK3 _ _ ?_)
  refine wp_cond_split (t := fcmp .gtr (ford .f32 (cf .f32 y) (cf .f32 x))) (ev rfl) (fun c4 => ?_) (fun c4 => ?_)
  · have c4' := c4
    refine wp_seq_k fun K5 hK5 => ?_
    refine wp_region_lit ?_
    refine q_is (l' := [(Fl x), (Fl y), Ud, Ud, (Fl 0), (Fl y), (Fl x), (Bo (fcmp .gtr (ford .f32 (cf .f32 y) (cf .f32 x)))), (Fl y), Ud]) rfl rfl (does_move (u := (Fl y)) (ev rfl)) rfl ?_
    refine q_is (l' := [(Fl x), (Fl y), Ud, Ud, (Fl y), (Fl y), (Fl x), (Bo (fcmp .gtr (ford .f32 (cf .f32 y) (cf .f32 x)))), (Fl y), Ud]) rfl rfl (does_assign (u := (Fl y)) (ev rfl)) rfl ?_
    refine wpList_nil (hK5 _ _ ?_)
    refine wp_ret ?_
    dsimp only [Exit.then, Exit.inBlock]
    refine ret_val (v := (Fl y)) (res_T rfl (slot rfl)) (Ext.refl w) ?_
    have x6 : cf .f32 y = fmaxG (cf .f32 x) (cf .f32 y) := by first | with_reducible rfl | (simp only [fmaxG, c4]; done) | (simp [fmaxG, c4]; done) | (revert c4; simp +contextual [fmaxG]; done) | (rcases c4' with hh | hh <;> simp only [hh, fmaxG, c4]; done) | (rcases c4' with hh | hh <;> simp_all [fmaxG]; done) | (rcases c4' with hh | hh | hh <;> simp_all [fmaxG]; done) | (rcases c4' with hh | hh | hh | hh <;> simp_all [fmaxG]; done) | (simp_all [fmaxG]; done) | rfl
    exact ⟨y, rfl, x6⟩
  have c4' := c4
  refine wp_skip (hK2 _ _ ?_)
  refine wp_seq_k fun K7 hK7 => ?_
  refine wp_region_lit ?_
  refine q_is (l' := [(Fl x), (Fl y), Ud, Ud, (Fl 0), (Fl y), (Fl x), (Bo (fcmp .gtr (ford .f32 (cf .f32 y) (cf .f32 x)))), Ud, (Fl x)]) rfl rfl (does_move (u := (Fl x)) (ev rfl)) rfl ?_
  refine q_is (l' := [(Fl x), (Fl y), Ud, Ud, (Fl x), (Fl y), (Fl x), (Bo (fcmp .gtr (ford .f32 (cf .f32 y) (cf .f32 x)))), Ud, (Fl x)]) rfl rfl (does_assign (u := (Fl x)) (ev rfl)) rfl ?_
  refine wpList_nil (hK7 _ _ ?_)
  refine wp_ret ?_
  refine ret_val (v := (Fl x)) (res_T rfl (slot rfl)) (Ext.refl w) ?_
  have x8 : cf .f32 x = fmaxG (cf .f32 x) (cf .f32 y) := by first | with_reducible rfl | (simp only [fmaxG, c4]; done) | (simp [fmaxG, c4]; done) | (revert c4; simp +contextual [fmaxG]; done) | (rcases c4' with hh | hh <;> simp only [hh, fmaxG, c4]; done) | (rcases c4' with hh | hh <;> simp_all [fmaxG]; done) | (rcases c4' with hh | hh | hh <;> simp_all [fmaxG]; done) | (rcases c4' with hh | hh | hh | hh <;> simp_all [fmaxG]; done) | (simp_all [fmaxG]; done) | rfl
  exact ⟨x, rfl, x8⟩

/- spec.l04Size -/
theorem c_spec_l04Size (r : List Value) (A_r : Rg) (w : World) (hv_r : RRg w A_r r) : Gives Try.prog 97 #[(.agg r.toArray)] w (fun v w' => ∃ cs_1 : List Value, v = (.agg cs_1.toArray) ∧ RRg w (szRange A_r) cs_1) := by
  obtain ⟨r1, r3, rfl, h2, h4⟩ := hv_r
  refine enter [(.agg #[(Fl r1), (Fl r3)]), Ud, Ud, Ud, Ud, Ud, Ud, Ud, Ud, Ud, Ud, Ud, Ud, Ud, Ud, Ud, Ud, Ud, Ud, Ud, Ud, Ud, Ud, Ud] Try.func97 rfl Try.ntmps97 rfl ?_
  refine wp_seq_k fun K5 hK5 => ?_
  refine wp_region_lit ?_
  refine seqd rfl rfl (does_box (u := (.agg #[(Fl r1), (Fl r3)])) (ev rfl)) ?_; rintro _ w10 ⟨b6, rfl, hb7, hB8, E9⟩
  have g11 : w.heap.size ≤ b6 := Nat.le_trans (Below.size (Ext.refl w)) hb7
  change Blk _ _ [(Fl r1), (Fl r3)] at hB8
  have X12 := Ext.gr (Ext.refl w) E9
  show wpList _ _ _ _ (fr [(.agg #[(Fl r1), (Fl r3)]), (Pt b6 0), Ud, Ud, Ud, Ud, Ud, Ud, Ud, Ud, Ud, Ud, Ud, Ud, Ud, Ud, Ud, Ud, Ud, Ud, Ud, Ud, Ud, Ud]) _
  refine seqd rfl rfl (does_alloc z38) ?_; rintro _ w17 ⟨b13, rfl, hb14, hB15, E16⟩
  have n18 : b6 < b13 := Nat.lt_of_lt_of_le (Blk.lt hB8) hb14
  have g19 : w.heap.size ≤ b13 := Nat.le_trans (Below.size X12) hb14
  change Blk _ _ [(Fl 0), (Fl 0)] at hB15
  have X20 := Ext.gr X12 E16
  show wpList _ _ _ _ (fr [(.agg #[(Fl r1), (Fl r3)]), (Pt b6 0), (Pt b13 0), Ud, Ud, Ud, Ud, Ud, Ud, Ud, Ud, Ud, Ud, Ud, Ud, Ud, Ud, Ud, Ud, Ud, Ud, Ud, Ud, Ud]) _
  refine wpList_nil (hK5 _ _ ?_)
  refine wp_seq_k fun K21 hK21 => ?_
  refine wp_seq_k fun K22 hK22 => ?_
  refine wp_region_lit ?_
  refine q_is (l' := [(.agg #[(Fl r1), (Fl r3)]), (Pt b6 0), (Pt b13 0), (Pt b6 0), Ud, Ud, Ud, Ud, Ud, Ud, Ud, Ud, Ud, Ud, Ud, Ud, Ud, Ud, Ud, Ud, Ud, Ud, Ud, Ud]) rfl rfl (does_fieldAddr (ev rfl) fa38_0) rfl ?_
  refine q_is (l' := [(.agg #[(Fl r1), (Fl r3)]), (Pt b6 0), (Pt b13 0), (Pt b6 0), (Fl r1), Ud, Ud, Ud, Ud, Ud, Ud, Ud, Ud, Ud, Ud, Ud, Ud, Ud, Ud, Ud, Ud, Ud, Ud, Ud]) rfl rfl (does_load (u := (Fl r1)) (ev rfl) Try.isAgg24 (Cells.at (Blk.cells (hB8.ext E16)) 0 rfl)) rfl ?_
  refine q_is (l' := [(.agg #[(Fl r1), (Fl r3)]), (Pt b6 0), (Pt b13 0), (Pt b6 0), (Fl r1), (Bo (fcmp .gtr (ford .f32 (cf .f32 r1) (cf .f32 0)))), Ud, Ud, Ud, Ud, Ud, Ud, Ud, Ud, Ud, Ud, Ud, Ud, Ud, Ud, Ud, Ud, Ud, Ud]) rfl rfl (does_fcmp (.inr (.inr (.inr (.inr (.inl rfl))))) (ev rfl) (ev rfl)) rfl ?_
  refine wpList_nil (hK22 _ _ ?_)
  refine wp_cond_split (t := fcmp .gtr (ford .f32 (cf .f32 r1) (cf .f32 0))) (ev rfl) (fun c23 => ?_) (fun c23 => ?_)
  · have c23' := c23
    refine wp_seq_k fun K24 hK24 => ?_
    refine wp_region_lit ?_
    refine q_is (l' := [(.agg #[(Fl r1), (Fl r3)]), (Pt b6 0), (Pt b13 0), (Pt b6 0), (Fl r1), (Bo (fcmp .gtr (ford .f32 (cf .f32 r1) (cf .f32 0)))), (.agg #[(Fl r1), (Fl r3)]), Ud, Ud, Ud, Ud, Ud, Ud, Ud, Ud, Ud, Ud, Ud, Ud, Ud, Ud, Ud, Ud, Ud]) rfl rfl (does_loadAgg (cs := [(Fl r1), (Fl r3)]) (ev rfl) Try.isAgg38 Try.sizeOf38 (Blk.cells (hB8.ext E16)) rfl) rfl ?_
    refine seqn rfl rfl (does_store (n := 2) (cs := [(Fl 0), (Fl 0)]) (u := (.agg #[(Fl r1), (Fl r3)])) (ev rfl) (ev rfl) Try.sizeOf38 rfl hB15 (Nat.le_of_ble_eq_true rfl) rfl) ?_; rintro _ w27 ⟨rfl, W25, hB26⟩
    change Blk _ _ [(Fl r1), (Fl r3)] at hB26
    have X28 := Below.wr X20 W25 g19
    refine wpList_nil (hK24 _ _ ?_)
    refine wp_ret ?_
    dsimp only [Exit.then, Exit.inBlock]
    refine ret_val (v := (.agg #[(Fl r1), (Fl r3)])) (res_C rfl (slot rfl) (run_loadAgg (cs := [(Fl r1), (Fl r3)]) Try.isAgg38 Try.sizeOf38 (Blk.cells hB26) rfl)) X28 ?_
    try simp only [h2, h4] at c23
    have x29 : cf .f32 r1 = (szRange A_r).lo := by first | with_reducible rfl | (simp only [szRange, h2, h4, c23]; done) | (simp [szRange, h2, h4, c23]; done) | (revert c23; simp +contextual [szRange, h2, h4]; done) | (rcases c23' with hh | hh <;> simp only [hh, szRange, h2, h4, c23]; done) | (rcases c23' with hh | hh <;> simp_all [szRange]; done) | (rcases c23' with hh | hh | hh <;> simp_all [szRange]; done) | (rcases c23' with hh | hh | hh | hh <;> simp_all [szRange]; done) | (simp_all [szRange]; done) | rfl
    have x30 : cf .f32 r3 = (szRange A_r).hi := by first | with_reducible rfl | (simp only [szRange, h2, h4, c23]; done) | (simp [szRange, h2, h4, c23]; done) | (revert c23; simp +contextual [szRange, h2, h4]; done) | (rcases c23' with hh | hh <;> simp only [hh, szRange, h2, h4, c23]; done) | (rcases c23' with hh | hh <;> simp_all [szRange]; done) | (rcases c23' with hh | hh | hh <;> simp_all [szRange]; done) | (rcases c23' with hh | hh | hh | hh <;> simp_all [szRange]; done) | (simp_all [szRange]; done) | rfl
    exact ⟨[(Fl r1), (Fl r3)], rfl, ⟨r1, r3, rfl, x29, x30⟩⟩
  have c23' := c23
  refine wp_skip (hK21 _ _ ?_)
  refine wp_seq_k fun K31 hK31 => ?_
  refine wp_seq_k fun K32 hK32 => ?_
  refine wp_region_lit ?_
  refine q_is (l' := [(.agg #[(Fl r1), (Fl r3)]), (Pt b6 0), (Pt b13 0), (Pt b6 0), (Fl r1), (Bo (fcmp .gtr (ford .f32 (cf .f32 r1) (cf .f32 0)))), Ud, (Pt b6 1), Ud, Ud, Ud, Ud, Ud, Ud, Ud, Ud, Ud, Ud, Ud, Ud, Ud, Ud, Ud, Ud]) rfl rfl (does_fieldAddr (ev rfl) fa38_1) rfl ?_
  refine q_is (l' := [(.agg #[(Fl r1), (Fl r3)]), (Pt b6 0), (Pt b13 0), (Pt b6 0), (Fl r1), (Bo (fcmp .gtr (ford .f32 (cf .f32 r1) (cf .f32 0)))), Ud, (Pt b6 1), (Fl r3), Ud, Ud, Ud, Ud, Ud, Ud, Ud, Ud, Ud, Ud, Ud, Ud, Ud, Ud, Ud]) rfl rfl (does_load (u := (Fl r3)) (ev rfl) Try.isAgg24 (Cells.at (Blk.cells (hB8.ext E16)) 1 rfl)) rfl ?_
  refine q_is (l' := [(.agg #[(Fl r1), (Fl r3)]), (Pt b6 0), (Pt b13 0), (Pt b6 0), (Fl r1), (Bo (fcmp .gtr (ford .f32 (cf .f32 r1) (cf .f32 0)))), Ud, (Pt b6 1), (Fl r3), (Bo (fcmp .lss (ford .f32 (cf .f32 r3) (cf .f32 0)))), Ud, Ud, Ud, Ud, Ud, Ud, Ud, Ud, Ud, Ud, Ud, Ud, Ud, Ud]) rfl rfl (does_fcmp (.inr (.inr (.inl rfl))) (ev rfl) (ev rfl)) rfl ?_
  refine wpList_nil (hK32 _ _ ?_)
  refine wp_cond_split (t := fcmp .lss (ford .f32 (cf .f32 r3) (cf .f32 0))) (ev rfl) (fun c33 => ?_) (fun c33 => ?_)
  · have c33' := c33
    refine wp_seq_k fun K34 hK34 => ?_
    refine wp_region_lit ?_
    refine q_is (l' := [(.agg #[(Fl r1), (Fl r3)]), (Pt b6 0), (Pt b13 0), (Pt b6 0), (Fl r1), (Bo (fcmp .gtr (ford .f32 (cf .f32 r1) (cf .f32 0)))), Ud, (Pt b6 1), (Fl r3), (Bo (fcmp .lss (ford .f32 (cf .f32 r3) (cf .f32 0)))), (Pt b6 1), Ud, Ud, Ud, Ud, Ud, Ud, Ud, Ud, Ud, Ud, Ud, Ud, Ud]) rfl rfl (does_fieldAddr (ev rfl) fa38_1) rfl ?_
    refine q_is (l' := [(.agg #[(Fl r1), (Fl r3)]), (Pt b6 0), (Pt b13 0), (Pt b6 0), (Fl r1), (Bo (fcmp .gtr (ford .f32 (cf .f32 r1) (cf .f32 0)))), Ud, (Pt b6 1), (Fl r3), (Bo (fcmp .lss (ford .f32 (cf .f32 r3) (cf .f32 0)))), (Pt b6 1), (Fl r3), Ud, Ud, Ud, Ud, Ud, Ud, Ud, Ud, Ud, Ud, Ud, Ud]) rfl rfl (does_load (u := (Fl r3)) (ev rfl) Try.isAgg24 (Cells.at (Blk.cells (hB8.ext E16)) 1 rfl)) rfl ?_
    refine seqd rfl rfl (does_fneg' (ev rfl)) ?_; rintro _ _ ⟨r35, rfl, h36, rfl⟩
    show wpList _ _ _ _ (fr [(.agg #[(Fl r1), (Fl r3)]), (Pt b6 0), (Pt b13 0), (Pt b6 0), (Fl r1), (Bo (fcmp .gtr (ford .f32 (cf .f32 r1) (cf .f32 0)))), Ud, (Pt b6 1), (Fl r3), (Bo (fcmp .lss (ford .f32 (cf .f32 r3) (cf .f32 0)))), (Pt b6 1), (Fl r3), (Fl r35), Ud, Ud, Ud, Ud, Ud, Ud, Ud, Ud, Ud, Ud, Ud]) _
    refine q_is (l' := [(.agg #[(Fl r1), (Fl r3)]), (Pt b6 0), (Pt b13 0), (Pt b6 0), (Fl r1), (Bo (fcmp .gtr (ford .f32 (cf .f32 r1) (cf .f32 0)))), Ud, (Pt b6 1), (Fl r3), (Bo (fcmp .lss (ford .f32 (cf .f32 r3) (cf .f32 0)))), (Pt b6 1), (Fl r3), (Fl r35), (Pt b6 0), Ud, Ud, Ud, Ud, Ud, Ud, Ud, Ud, Ud, Ud]) rfl rfl (does_fieldAddr (ev rfl) fa38_0) rfl ?_
    refine q_is (l' := [(.agg #[(Fl r1), (Fl r3)]), (Pt b6 0), (Pt b13 0), (Pt b6 0), (Fl r1), (Bo (fcmp .gtr (ford .f32 (cf .f32 r1) (cf .f32 0)))), Ud, (Pt b6 1), (Fl r3), (Bo (fcmp .lss (ford .f32 (cf .f32 r3) (cf .f32 0)))), (Pt b6 1), (Fl r3), (Fl r35), (Pt b6 0), (Fl r1), Ud, Ud, Ud, Ud, Ud, Ud, Ud, Ud, Ud]) rfl rfl (does_load (u := (Fl r1)) (ev rfl) Try.isAgg24 (Cells.at (Blk.cells (hB8.ext E16)) 0 rfl)) rfl ?_
    refine seqd rfl rfl (does_fneg' (ev rfl)) ?_; rintro _ _ ⟨r37, rfl, h38, rfl⟩
    show wpList _ _ _ _ (fr [(.agg #[(Fl r1), (Fl r3)]), (Pt b6 0), (Pt b13 0), (Pt b6 0), (Fl r1), (Bo (fcmp .gtr (ford .f32 (cf .f32 r1) (cf .f32 0)))), Ud, (Pt b6 1), (Fl r3), (Bo (fcmp .lss (ford .f32 (cf .f32 r3) (cf .f32 0)))), (Pt b6 1), (Fl r3), (Fl r35), (Pt b6 0), (Fl r1), (Fl r37), Ud, Ud, Ud, Ud, Ud, Ud, Ud, Ud]) _
    refine q_is (l' := [(.agg #[(Fl r1), (Fl r3)]), (Pt b6 0), (Pt b13 0), (Pt b6 0), (Fl r1), (Bo (fcmp .gtr (ford .f32 (cf .f32 r1) (cf .f32 0)))), Ud, (Pt b6 1), (Fl r3), (Bo (fcmp .lss (ford .f32 (cf .f32 r3) (cf .f32 0)))), (Pt b6 1), (Fl r3), (Fl r35), (Pt b6 0), (Fl r1), (Fl r37), (.agg #[(Fl r35), (Fl r37)]), Ud, Ud, Ud, Ud, Ud, Ud, Ud]) rfl rfl (does_build (parts' := [(0, (Fl r35)), (1, (Fl r37))]) (cells := #[(Fl r35), (Fl r37)]) (evp rfl) (by kernel_rfl)) rfl ?_
    refine seqn rfl rfl (does_store (n := 2) (cs := [(Fl 0), (Fl 0)]) (u := (.agg #[(Fl r35), (Fl r37)])) (ev rfl) (ev rfl) Try.sizeOf38 rfl hB15 (Nat.le_of_ble_eq_true rfl) rfl) ?_; rintro _ w41 ⟨rfl, W39, hB40⟩
    change Blk _ _ [(Fl r35), (Fl r37)] at hB40
    have X42 := Below.wr X20 W39 g19
    refine wpList_nil (hK34 _ _ ?_)
    refine wp_ret ?_
    dsimp only [Exit.then, Exit.inBlock]
    refine ret_val (v := (.agg #[(Fl r35), (Fl r37)])) (res_C rfl (slot rfl) (run_loadAgg (cs := [(Fl r35), (Fl r37)]) Try.isAgg38 Try.sizeOf38 (Blk.cells hB40) rfl)) X42 ?_
    try simp only [h2, h4, h36, h38] at c23 c33
    have x43 : cf .f32 r35 = (szRange A_r).lo := by first | with_reducible rfl | (simp only [szRange, h2, h4, h36, h38, c23, c33]; done) | (simp [szRange, h2, h4, h36, h38, c23, c33]; done) | (revert c23 c33; simp +contextual [szRange, h2, h4, h36, h38]; done) | (rcases c23' with hh | hh <;> simp only [hh, szRange, h2, h4, h36, h38, c23, c33]; done) | (rcases c33' with hh | hh <;> simp only [hh, szRange, h2, h4, h36, h38, c23, c33]; done) | (rcases c33' with hh | hh <;> simp_all [szRange]; done) | (rcases c33' with hh | hh | hh <;> simp_all [szRange]; done) | (rcases c33' with hh | hh | hh | hh <;> simp_all [szRange]; done) | (simp_all [szRange]; done) | rfl
    have x44 : cf .f32 r37 = (szRange A_r).hi := by first | with_reducible rfl | (simp only [szRange, h2, h4, h36, h38, c23, c33]; done) | (simp [szRange, h2, h4, h36, h38, c23, c33]; done) | (revert c23 c33; simp +contextual [szRange, h2, h4, h36, h38]; done) | (rcases c23' with hh | hh <;> simp only [hh, szRange, h2, h4, h36, h38, c23, c33]; done) | (rcases c33' with hh | hh <;> simp only [hh, szRange, h2, h4, h36, h38, c23, c33]; done) | (rcases c33' with hh | hh <;> simp_all [szRange]; done) | (rcases c33' with hh | hh | hh <;> simp_all [szRange]; done) | (rcases c33' with hh | hh | hh | hh <;> simp_all [szRange]; done) | (simp_all [szRange]; done) | rfl
    exact ⟨[(Fl r35), (Fl r37)], rfl, ⟨r35, r37, rfl, x43, x44⟩⟩
  have c33' := c33
  refine wp_skip (hK31 _ _ ?_)
  refine wp_seq_k fun K45 hK45 => ?_
  refine wp_region_lit ?_
  refine q_is (l' := [(.agg #[(Fl r1), (Fl r3)]), (Pt b6 0), (Pt b13 0), (Pt b6 0), (Fl r1), (Bo (fcmp .gtr (ford .f32 (cf .f32 r1) (cf .f32 0)))), Ud, (Pt b6 1), (Fl r3), (Bo (fcmp .lss (ford .f32 (cf .f32 r3) (cf .f32 0)))), Ud, Ud, Ud, Ud, Ud, Ud, Ud, (Pt b6 0), Ud, Ud, Ud, Ud, Ud, Ud]) rfl rfl (does_fieldAddr (ev rfl) fa38_0) rfl ?_
  refine q_is (l' := [(.agg #[(Fl r1), (Fl r3)]), (Pt b6 0), (Pt b13 0), (Pt b6 0), (Fl r1), (Bo (fcmp .gtr (ford .f32 (cf .f32 r1) (cf .f32 0)))), Ud, (Pt b6 1), (Fl r3), (Bo (fcmp .lss (ford .f32 (cf .f32 r3) (cf .f32 0)))), Ud, Ud, Ud, Ud, Ud, Ud, Ud, (Pt b6 0), (Fl r1), Ud, Ud, Ud, Ud, Ud]) rfl rfl (does_load (u := (Fl r1)) (ev rfl) Try.isAgg24 (Cells.at (Blk.cells (hB8.ext E16)) 0 rfl)) rfl ?_
  refine seqd rfl rfl (does_fneg' (ev rfl)) ?_; rintro _ _ ⟨r46, rfl, h47, rfl⟩
  show wpList _ _ _ _ (fr [(.agg #[(Fl r1), (Fl r3)]), (Pt b6 0), (Pt b13 0), (Pt b6 0), (Fl r1), (Bo (fcmp .gtr (ford .f32 (cf .f32 r1) (cf .f32 0)))), Ud, (Pt b6 1), (Fl r3), (Bo (fcmp .lss (ford .f32 (cf .f32 r3) (cf .f32 0)))), Ud, Ud, Ud, Ud, Ud, Ud, Ud, (Pt b6 0), (Fl r1), (Fl r46), Ud, Ud, Ud, Ud]) _
  refine q_is (l' := [(.agg #[(Fl r1), (Fl r3)]), (Pt b6 0), (Pt b13 0), (Pt b6 0), (Fl r1), (Bo (fcmp .gtr (ford .f32 (cf .f32 r1) (cf .f32 0)))), Ud, (Pt b6 1), (Fl r3), (Bo (fcmp .lss (ford .f32 (cf .f32 r3) (cf .f32 0)))), Ud, Ud, Ud, Ud, Ud, Ud, Ud, (Pt b6 0), (Fl r1), (Fl r46), (Pt b6 1), Ud, Ud, Ud]) rfl rfl (does_fieldAddr (ev rfl) fa38_1) rfl ?_
  refine q_is (l' := [(.agg #[(Fl r1), (Fl r3)]), (Pt b6 0), (Pt b13 0), (Pt b6 0), (Fl r1), (Bo (fcmp .gtr (ford .f32 (cf .f32 r1) (cf .f32 0)))), Ud, (Pt b6 1), (Fl r3), (Bo (fcmp .lss (ford .f32 (cf .f32 r3) (cf .f32 0)))), Ud, Ud, Ud, Ud, Ud, Ud, Ud, (Pt b6 0), (Fl r1), (Fl r46), (Pt b6 1), (Fl r3), Ud, Ud]) rfl rfl (does_load (u := (Fl r3)) (ev rfl) Try.isAgg24 (Cells.at (Blk.cells (hB8.ext E16)) 1 rfl)) rfl ?_
  refine seqd rfl rfl (does_call (args := #[(Fl r46), (Fl r3)]) cal78 (evs rfl) (c_spec_l02Greater r46 r3 _)) ?_; rintro _ w49 ⟨E48, ⟨r50, rfl, h51⟩⟩
  have X52 := Ext.gr X20 E48
  show wpList _ _ _ _ (fr [(.agg #[(Fl r1), (Fl r3)]), (Pt b6 0), (Pt b13 0), (Pt b6 0), (Fl r1), (Bo (fcmp .gtr (ford .f32 (cf .f32 r1) (cf .f32 0)))), Ud, (Pt b6 1), (Fl r3), (Bo (fcmp .lss (ford .f32 (cf .f32 r3) (cf .f32 0)))), Ud, Ud, Ud, Ud, Ud, Ud, Ud, (Pt b6 0), (Fl r1), (Fl r46), (Pt b6 1), (Fl r3), (Fl r50), Ud]) _
  refine q_is (l' := [(.agg #[(Fl r1), (Fl r3)]), (Pt b6 0), (Pt b13 0), (Pt b6 0), (Fl r1), (Bo (fcmp .gtr (ford .f32 (cf .f32 r1) (cf .f32 0)))), Ud, (Pt b6 1), (Fl r3), (Bo (fcmp .lss (ford .f32 (cf .f32 r3) (cf .f32 0)))), Ud, Ud, Ud, Ud, Ud, Ud, Ud, (Pt b6 0), (Fl r1), (Fl r46), (Pt b6 1), (Fl r3), (Fl r50), (.agg #[(Fl 0), (Fl r50)])]) rfl rfl (does_build (parts' := [(0, (Fl 0)), (1, (Fl r50))]) (cells := #[(Fl 0), (Fl r50)]) (evp rfl) (by kernel_rfl)) rfl ?_
  refine seqn rfl rfl (does_store (n := 2) (cs := [(Fl 0), (Fl 0)]) (u := (.agg #[(Fl 0), (Fl r50)])) (ev rfl) (ev rfl) Try.sizeOf38 rfl (hB15.ext E48) (Nat.le_of_ble_eq_true rfl) rfl) ?_; rintro _ w55 ⟨rfl, W53, hB54⟩
  change Blk _ _ [(Fl 0), (Fl r50)] at hB54
  have X56 := Below.wr X52 W53 g19
  refine wpList_nil (hK45 _ _ ?_)
  refine wp_ret ?_
  refine ret_val (v := (.agg #[(Fl 0), (Fl r50)])) (res_C rfl (slot rfl) (run_loadAgg (cs := [(Fl 0), (Fl r50)]) Try.isAgg38 Try.sizeOf38 (Blk.cells hB54) rfl)) X56 ?_
  try simp only [h2, h4, h47, h51] at c23 c33
  have x57 : cf .f32 0 = (szRange A_r).lo := by first | with_reducible rfl | (simp only [szRange, h2, h4, h47, h51, c23, c33]; done) | (simp [szRange, h2, h4, h47, h51, c23, c33]; done) | (revert c23 c33; simp +contextual [szRange, h2, h4, h47, h51]; done) | (rcases c23' with hh | hh <;> simp only [hh, szRange, h2, h4, h47, h51, c23, c33]; done) | (rcases c33' with hh | hh <;> simp only [hh, szRange, h2, h4, h47, h51, c23, c33]; done) | (rcases c33' with hh | hh <;> simp_all [szRange]; done) | (rcases c33' with hh | hh | hh <;> simp_all [szRange]; done) | (rcases c33' with hh | hh | hh | hh <;> simp_all [szRange]; done) | (simp_all [szRange]; done) | rfl
  have x58 : cf .f32 r50 = (szRange A_r).hi := by first | with_reducible rfl | (simp only [szRange, h2, h4, h47, h51, c23, c33]; done) | (simp [szRange, h2, h4, h47, h51, c23, c33]; done) | (revert c23 c33; simp +contextual [szRange, h2, h4, h47, h51]; done) | (rcases c23' with hh | hh <;> simp only [hh, szRange, h2, h4, h47, h51, c23, c33]; done) | (rcases c33' with hh | hh <;> simp only [hh, szRange, h2, h4, h47, h51, c23, c33]; done) | (rcases c33' with hh | hh <;> simp_all [szRange]; done) | (rcases c33' with hh | hh | hh <;> simp_all [szRange]; done) | (rcases c33' with hh | hh | hh | hh <;> simp_all [szRange]; done) | (simp_all [szRange]; done) | rfl
  exact ⟨[(Fl 0), (Fl r50)], rfl, ⟨0, r50, rfl, x57, x58⟩⟩

/- math.Sqrt -/
theorem c_math_Sqrt (x : Nat) (w : World) : Gives Try.prog 113 #[(Fd x)] w (fun v w' => ∃ r_1 : Nat, v = (Fd r_1) ∧ cf .f64 r_1 = fsqrt (cf .f64 x)) := by
  refine enter [(Fd x), Ud, Ud, Ud, Ud] Try.func113 rfl Try.ntmps113 rfl ?_
  refine wp_seq_k fun K1 hK1 => ?_
  refine wp_region_lit ?_
  refine q_is (l' := [(Fd x), Ud, (Fd 0), Ud, Ud]) rfl rfl (does_assign (u := (Fd 0)) (ev rfl)) rfl ?_
  refine wpList_nil (hK1 _ _ ?_)
  refine wp_seq_k fun K2 hK2 => ?_
  refine wp_region_lit ?_
  refine q_is (l' := [(Fd x), Ud, (Fd 0), (Fd x), Ud]) rfl rfl (does_move (u := (Fd x)) (ev rfl)) rfl ?_
  refine seqd rfl rfl (does_sqrt (p := x) (ev rfl) csq117) ?_; rintro _ w6 ⟨r3, rfl, h4, E5⟩
  have X7 := Ext.gr (Ext.refl w) E5
  show wpList _ _ _ _ (fr [(Fd x), Ud, (Fd 0), (Fd x), (Fd r3)]) _
  refine q_is (l' := [(Fd x), Ud, (Fd r3), (Fd x), (Fd r3)]) rfl rfl (does_assign (u := (Fd r3)) (ev rfl)) rfl ?_
  refine wpList_nil (hK2 _ _ ?_)
  refine wp_ret ?_
  refine ret_val (v := (Fd r3)) (res_T rfl (slot rfl)) X7 ?_
  have x8 : cf .f64 r3 = fsqrt (cf .f64 x) := by first | with_reducible rfl | (simp only [h4]; done) | (simp [h4]; done) | rfl
  exact ⟨r3, rfl, x8⟩

/- spec.l01Narrow -/
theorem c_spec_l01Narrow (x : Nat) (w : World) (hn : nov (cf .f64 x) = true) : Gives Try.prog 116 #[(Fd x)] w (fun v w' => ∃ r_1 : Nat, v = (Fl r_1) ∧ cf .f32 r_1 = fnar (cf .f64 x)) := by
  refine enter [(Fd x), Ud, Ud, Ud, Ud] Try.func116 rfl Try.ntmps116 rfl ?_
  refine wp_seq_k fun K1 hK1 => ?_
  refine wp_region_lit ?_
  refine q_is (l' := [(Fd x), Ud, (Fl 0), Ud, Ud]) rfl rfl (does_assign (u := (Fl 0)) (ev rfl)) rfl ?_
  refine wpList_nil (hK1 _ _ ?_)
  refine wp_seq_k fun K2 hK2 => ?_
  refine wp_region_lit ?_
  refine q_is (l' := [(Fd x), Ud, (Fl 0), (Fd x), Ud]) rfl rfl (does_move (u := (Fd x)) (ev rfl)) rfl ?_
  refine seqd rfl rfl (does_narrow Try.underlying80 Try.underlying24 (ev rfl) (by first | assumption | (simp only [cf_cf]; exact nov_sqrt _))) ?_; rintro _ w6 ⟨r3, rfl, h4, E5⟩
  have X7 := Ext.gr (Ext.refl w) E5
  show wpList _ _ _ _ (fr [(Fd x), Ud, (Fl 0), (Fd x), (Fl r3)]) _
  refine q_is (l' := [(Fd x), Ud, (Fl r3), (Fd x), (Fl r3)]) rfl rfl (does_assign (u := (Fl r3)) (ev rfl)) rfl ?_
  refine wpList_nil (hK2 _ _ ?_)
  refine wp_ret ?_
  refine ret_val (v := (Fl r3)) (res_T rfl (slot rfl)) X7 ?_
  have x8 : cf .f32 r3 = fnar (cf .f64 x) := by first | with_reducible rfl | (simp only [h4]; done) | (simp [h4]; done) | rfl
  exact ⟨r3, rfl, x8⟩

/- spec.l01Sqrt -/
theorem c_spec_l01Sqrt (x : Nat) (w : World) : Gives Try.prog 111 #[(Fl x)] w (fun v w' => ∃ r_1 : Nat, v = (Fl r_1) ∧ cf .f32 r_1 = rootF (cf .f32 x)) := by
  refine enter [(Fl x), Ud, Ud, Ud, Ud, Ud, Ud] Try.func111 rfl Try.ntmps111 rfl ?_
  refine wp_seq_k fun K1 hK1 => ?_
  refine wp_region_lit ?_
  refine q_is (l' := [(Fl x), Ud, (Fl 0), Ud, Ud, Ud, Ud]) rfl rfl (does_assign (u := (Fl 0)) (ev rfl)) rfl ?_
  refine wpList_nil (hK1 _ _ ?_)
  refine wp_seq_k fun K2 hK2 => ?_
  refine wp_region_lit ?_
  refine q_is (l' := [(Fl x), Ud, (Fl 0), (Fl x), Ud, Ud, Ud]) rfl rfl (does_move (u := (Fl x)) (ev rfl)) rfl ?_
  refine seqd rfl rfl (does_widen Try.underlying24 Try.underlying80 (ev rfl)) ?_; rintro _ w6 ⟨r3, rfl, h4, E5⟩
  have X7 := Ext.gr (Ext.refl w) E5
  show wpList _ _ _ _ (fr [(Fl x), Ud, (Fl 0), (Fl x), (Fd r3), Ud, Ud]) _
  refine seqd rfl rfl (does_call (args := #[(Fd r3)]) cal113 (evs rfl) (c_math_Sqrt r3 _)) ?_; rintro _ w9 ⟨E8, ⟨r10, rfl, h11⟩⟩
  have X12 := Ext.gr X7 E8
  show wpList _ _ _ _ (fr [(Fl x), Ud, (Fl 0), (Fl x), (Fd r3), (Fd r10), Ud]) _
  refine seqd rfl rfl (does_call (args := #[(Fd r10)]) cal116 (evs rfl) (c_spec_l01Narrow r10 _ (by simp only [h4, h11]; exact nov_sqrt _))) ?_; rintro _ w14 ⟨E13, ⟨r15, rfl, h16⟩⟩
  have X17 := Ext.gr X12 E13
  show wpList _ _ _ _ (fr [(Fl x), Ud, (Fl 0), (Fl x), (Fd r3), (Fd r10), (Fl r15)]) _
  refine q_is (l' := [(Fl x), Ud, (Fl r15), (Fl x), (Fd r3), (Fd r10), (Fl r15)]) rfl rfl (does_assign (u := (Fl r15)) (ev rfl)) rfl ?_
  refine wpList_nil (hK2 _ _ ?_)
  refine wp_ret ?_
  refine ret_val (v := (Fl r15)) (res_T rfl (slot rfl)) X17 ?_
  have x18 : cf .f32 r15 = rootF (cf .f32 x) := by first | with_reducible rfl | (simp only [rootF, h4, h11, h16]; done) | (simp [rootF, h4, h11, h16]; done) | rfl
  exact ⟨r15, rfl, x18⟩

/- spec.l01Inner -/
theorem c_spec_l01Inner (a : List Value) (A_a : V3) (b : List Value) (A_b : V3) (w : World) (hv_a : RV3 w A_a a) (hv_b : RV3 w A_b b) : Gives Try.prog 112 #[(.agg a.toArray), (.agg b.toArray)] w (fun v w' => ∃ r_1 : Nat, v = (Fl r_1) ∧ cf .f32 r_1 = innerF A_a A_b) := by
  obtain ⟨r1, r3, r5, rfl, h2, h4, h6⟩ := hv_a
  obtain ⟨r7, r9, r11, rfl, h8, h10, h12⟩ := hv_b
  refine enter [(.agg #[(Fl r1), (Fl r3), (Fl r5)]), (.agg #[(Fl r7), (Fl r9), (Fl r11)]), Ud, Ud, Ud, Ud, Ud, Ud, Ud, Ud, Ud, Ud, Ud, Ud, Ud, Ud, Ud, Ud, Ud, Ud, Ud, Ud] Try.func112 rfl Try.ntmps112 rfl ?_
  refine wp_seq_k fun K13 hK13 => ?_
  refine wp_region_lit ?_
  refine seqd rfl rfl (does_box (u := (.agg #[(Fl r1), (Fl r3), (Fl r5)])) (ev rfl)) ?_; rintro _ w18 ⟨b14, rfl, hb15, hB16, E17⟩
  have g19 : w.heap.size ≤ b14 := Nat.le_trans (Below.size (Ext.refl w)) hb15
  change Blk _ _ [(Fl r1), (Fl r3), (Fl r5)] at hB16
  have X20 := Ext.gr (Ext.refl w) E17
  show wpList _ _ _ _ (fr [(.agg #[(Fl r1), (Fl r3), (Fl r5)]), (.agg #[(Fl r7), (Fl r9), (Fl r11)]), (Pt b14 0), Ud, Ud, Ud, Ud, Ud, Ud, Ud, Ud, Ud, Ud, Ud, Ud, Ud, Ud, Ud, Ud, Ud, Ud, Ud]) _
  refine seqd rfl rfl (does_box (u := (.agg #[(Fl r7), (Fl r9), (Fl r11)])) (ev rfl)) ?_; rintro _ w25 ⟨b21, rfl, hb22, hB23, E24⟩
  have n26 : b14 < b21 := Nat.lt_of_lt_of_le (Blk.lt hB16) hb22
  have g27 : w.heap.size ≤ b21 := Nat.le_trans (Below.size X20) hb22
  change Blk _ _ [(Fl r7), (Fl r9), (Fl r11)] at hB23
  have X28 := Ext.gr X20 E24
  show wpList _ _ _ _ (fr [(.agg #[(Fl r1), (Fl r3), (Fl r5)]), (.agg #[(Fl r7), (Fl r9), (Fl r11)]), (Pt b14 0), (Pt b21 0), Ud, Ud, Ud, Ud, Ud, Ud, Ud, Ud, Ud, Ud, Ud, Ud, Ud, Ud, Ud, Ud, Ud, Ud]) _
  refine q_is (l' := [(.agg #[(Fl r1), (Fl r3), (Fl r5)]), (.agg #[(Fl r7), (Fl r9), (Fl r11)]), (Pt b14 0), (Pt b21 0), (Fl 0), Ud, Ud, Ud, Ud, Ud, Ud, Ud, Ud, Ud, Ud, Ud, Ud, Ud, Ud, Ud, Ud, Ud]) rfl rfl (does_assign (u := (Fl 0)) (ev rfl)) rfl ?_
  refine wpList_nil (hK13 _ _ ?_)
  refine wp_seq_k fun K29 hK29 => ?_
  refine wp_region_lit ?_
  refine q_is (l' := [(.agg #[(Fl r1), (Fl r3), (Fl r5)]), (.agg #[(Fl r7), (Fl r9), (Fl r11)]), (Pt b14 0), (Pt b21 0), (Fl 0), (Pt b14 0), Ud, Ud, Ud, Ud, Ud, Ud, Ud, Ud, Ud, Ud, Ud, Ud, Ud, Ud, Ud, Ud]) rfl rfl (does_fieldAddr (ev rfl) fa26_0) rfl ?_
  refine q_is (l' := [(.agg #[(Fl r1), (Fl r3), (Fl r5)]), (.agg #[(Fl r7), (Fl r9), (Fl r11)]), (Pt b14 0), (Pt b21 0), (Fl 0), (Pt b14 0), (Fl r1), Ud, Ud, Ud, Ud, Ud, Ud, Ud, Ud, Ud, Ud, Ud, Ud, Ud, Ud, Ud]) rfl rfl (does_load (u := (Fl r1)) (ev rfl) Try.isAgg24 (Cells.at (Blk.cells (hB16.ext E24)) 0 rfl)) rfl ?_
  refine q_is (l' := [(.agg #[(Fl r1), (Fl r3), (Fl r5)]), (.agg #[(Fl r7), (Fl r9), (Fl r11)]), (Pt b14 0), (Pt b21 0), (Fl 0), (Pt b14 0), (Fl r1), (Pt b21 0), Ud, Ud, Ud, Ud, Ud, Ud, Ud, Ud, Ud, Ud, Ud, Ud, Ud, Ud]) rfl rfl (does_fieldAddr (ev rfl) fa26_0) rfl ?_
  refine q_is (l' := [(.agg #[(Fl r1), (Fl r3), (Fl r5)]), (.agg #[(Fl r7), (Fl r9), (Fl r11)]), (Pt b14 0), (Pt b21 0), (Fl 0), (Pt b14 0), (Fl r1), (Pt b21 0), (Fl r7), Ud, Ud, Ud, Ud, Ud, Ud, Ud, Ud, Ud, Ud, Ud, Ud, Ud]) rfl rfl (does_load (u := (Fl r7)) (ev rfl) Try.isAgg24 (Cells.at (Blk.cells hB23) 0 rfl)) rfl ?_
  refine seqd rfl rfl (does_float (.inr (.inr (.inl rfl))) (ev rfl) (ev rfl)) ?_; rintro _ w33 ⟨r30, rfl, h31, E32⟩
  have X34 := Ext.gr X28 E32
  show wpList _ _ _ _ (fr [(.agg #[(Fl r1), (Fl r3), (Fl r5)]), (.agg #[(Fl r7), (Fl r9), (Fl r11)]), (Pt b14 0), (Pt b21 0), (Fl 0), (Pt b14 0), (Fl r1), (Pt b21 0), (Fl r7), (Fl r30), Ud, Ud, Ud, Ud, Ud, Ud, Ud, Ud, Ud, Ud, Ud, Ud]) _
  refine q_is (l' := [(.agg #[(Fl r1), (Fl r3), (Fl r5)]), (.agg #[(Fl r7), (Fl r9), (Fl r11)]), (Pt b14 0), (Pt b21 0), (Fl 0), (Pt b14 0), (Fl r1), (Pt b21 0), (Fl r7), (Fl r30), (Pt b14 1), Ud, Ud, Ud, Ud, Ud, Ud, Ud, Ud, Ud, Ud, Ud]) rfl rfl (does_fieldAddr (ev rfl) fa26_1) rfl ?_
  refine q_is (l' := [(.agg #[(Fl r1), (Fl r3), (Fl r5)]), (.agg #[(Fl r7), (Fl r9), (Fl r11)]), (Pt b14 0), (Pt b21 0), (Fl 0), (Pt b14 0), (Fl r1), (Pt b21 0), (Fl r7), (Fl r30), (Pt b14 1), (Fl r3), Ud, Ud, Ud, Ud, Ud, Ud, Ud, Ud, Ud, Ud]) rfl rfl (does_load (u := (Fl r3)) (ev rfl) Try.isAgg24 (Cells.at (Blk.cells ((hB16.ext E24).ext E32)) 1 rfl)) rfl ?_
  refine q_is (l' := [(.agg #[(Fl r1), (Fl r3), (Fl r5)]), (.agg #[(Fl r7), (Fl r9), (Fl r11)]), (Pt b14 0), (Pt b21 0), (Fl 0), (Pt b14 0), (Fl r1), (Pt b21 0), (Fl r7), (Fl r30), (Pt b14 1), (Fl r3), (Pt b21 1), Ud, Ud, Ud, Ud, Ud, Ud, Ud, Ud, Ud]) rfl rfl (does_fieldAddr (ev rfl) fa26_1) rfl ?_
  refine q_is (l' := [(.agg #[(Fl r1), (Fl r3), (Fl r5)]), (.agg #[(Fl r7), (Fl r9), (Fl r11)]), (Pt b14 0), (Pt b21 0), (Fl 0), (Pt b14 0), (Fl r1), (Pt b21 0), (Fl r7), (Fl r30), (Pt b14 1), (Fl r3), (Pt b21 1), (Fl r9), Ud, Ud, Ud, Ud, Ud, Ud, Ud, Ud]) rfl rfl (does_load (u := (Fl r9)) (ev rfl) Try.isAgg24 (Cells.at (Blk.cells (hB23.ext E32)) 1 rfl)) rfl ?_
  refine seqd rfl rfl (does_float (.inr (.inr (.inl rfl))) (ev rfl) (ev rfl)) ?_; rintro _ w38 ⟨r35, rfl, h36, E37⟩
  have X39 := Ext.gr X34 E37
  show wpList _ _ _ _ (fr [(.agg #[(Fl r1), (Fl r3), (Fl r5)]), (.agg #[(Fl r7), (Fl r9), (Fl r11)]), (Pt b14 0), (Pt b21 0), (Fl 0), (Pt b14 0), (Fl r1), (Pt b21 0), (Fl r7), (Fl r30), (Pt b14 1), (Fl r3), (Pt b21 1), (Fl r9), (Fl r35), Ud, Ud, Ud, Ud, Ud, Ud, Ud]) _
  refine seqd rfl rfl (does_float (.inl rfl) (ev rfl) (ev rfl)) ?_; rintro _ w43 ⟨r40, rfl, h41, E42⟩
  have X44 := Ext.gr X39 E42
  show wpList _ _ _ _ (fr [(.agg #[(Fl r1), (Fl r3), (Fl r5)]), (.agg #[(Fl r7), (Fl r9), (Fl r11)]), (Pt b14 0), (Pt b21 0), (Fl 0), (Pt b14 0), (Fl r1), (Pt b21 0), (Fl r7), (Fl r30), (Pt b14 1), (Fl r3), (Pt b21 1), (Fl r9), (Fl r35), (Fl r40), Ud, Ud, Ud, Ud, Ud, Ud]) _
  refine q_is (l' := [(.agg #[(Fl r1), (Fl r3), (Fl r5)]), (.agg #[(Fl r7), (Fl r9), (Fl r11)]), (Pt b14 0), (Pt b21 0), (Fl 0), (Pt b14 0), (Fl r1), (Pt b21 0), (Fl r7), (Fl r30), (Pt b14 1), (Fl r3), (Pt b21 1), (Fl r9), (Fl r35), (Fl r40), (Pt b14 2), Ud, Ud, Ud, Ud, Ud]) rfl rfl (does_fieldAddr (ev rfl) fa26_2) rfl ?_
  refine q_is (l' := [(.agg #[(Fl r1), (Fl r3), (Fl r5)]), (.agg #[(Fl r7), (Fl r9), (Fl r11)]), (Pt b14 0), (Pt b21 0), (Fl 0), (Pt b14 0), (Fl r1), (Pt b21 0), (Fl r7), (Fl r30), (Pt b14 1), (Fl r3), (Pt b21 1), (Fl r9), (Fl r35), (Fl r40), (Pt b14 2), (Fl r5), Ud, Ud, Ud, Ud]) rfl rfl (does_load (u := (Fl r5)) (ev rfl) Try.isAgg24 (Cells.at (Blk.cells ((((hB16.ext E24).ext E32).ext E37).ext E42)) 2 rfl)) rfl ?_
  refine q_is (l' := [(.agg #[(Fl r1), (Fl r3), (Fl r5)]), (.agg #[(Fl r7), (Fl r9), (Fl r11)]), (Pt b14 0), (Pt b21 0), (Fl 0), (Pt b14 0), (Fl r1), (Pt b21 0), (Fl r7), (Fl r30), (Pt b14 1), (Fl r3), (Pt b21 1), (Fl r9), (Fl r35), (Fl r40), (Pt b14 2), (Fl r5), (Pt b21 2), Ud, Ud, Ud]) rfl rfl (does_fieldAddr (ev rfl) fa26_2) rfl ?_
  refine q_is (l' := [(.agg #[(Fl r1), (Fl r3), (Fl r5)]), (.agg #[(Fl r7), (Fl r9), (Fl r11)]), (Pt b14 0), (Pt b21 0), (Fl 0), (Pt b14 0), (Fl r1), (Pt b21 0), (Fl r7), (Fl r30), (Pt b14 1), (Fl r3), (Pt b21 1), (Fl r9), (Fl r35), (Fl r40), (Pt b14 2), (Fl r5), (Pt b21 2), (Fl r11), Ud, Ud]) rfl rfl (does_load (u := (Fl r11)) (ev rfl) Try.isAgg24 (Cells.at (Blk.cells (((hB23.ext E32).ext E37).ext E42)) 2 rfl)) rfl ?_
  refine seqd rfl rfl (does_float (.inr (.inr (.inl rfl))) (ev rfl) (ev rfl)) ?_; rintro _ w48 ⟨r45, rfl, h46, E47⟩
  have X49 := Ext.gr X44 E47
  show wpList _ _ _ _ (fr [(.agg #[(Fl r1), (Fl r3), (Fl r5)]), (.agg #[(Fl r7), (Fl r9), (Fl r11)]), (Pt b14 0), (Pt b21 0), (Fl 0), (Pt b14 0), (Fl r1), (Pt b21 0), (Fl r7), (Fl r30), (Pt b14 1), (Fl r3), (Pt b21 1), (Fl r9), (Fl r35), (Fl r40), (Pt b14 2), (Fl r5), (Pt b21 2), (Fl r11), (Fl r45), Ud]) _
  refine seqd rfl rfl (does_float (.inl rfl) (ev rfl) (ev rfl)) ?_; rintro _ w53 ⟨r50, rfl, h51, E52⟩
  have X54 := Ext.gr X49 E52
  show wpList _ _ _ _ (fr [(.agg #[(Fl r1), (Fl r3), (Fl r5)]), (.agg #[(Fl r7), (Fl r9), (Fl r11)]), (Pt b14 0), (Pt b21 0), (Fl 0), (Pt b14 0), (Fl r1), (Pt b21 0), (Fl r7), (Fl r30), (Pt b14 1), (Fl r3), (Pt b21 1), (Fl r9), (Fl r35), (Fl r40), (Pt b14 2), (Fl r5), (Pt b21 2), (Fl r11), (Fl r45), (Fl r50)]) _
  refine q_is (l' := [(.agg #[(Fl r1), (Fl r3), (Fl r5)]), (.agg #[(Fl r7), (Fl r9), (Fl r11)]), (Pt b14 0), (Pt b21 0), (Fl r50), (Pt b14 0), (Fl r1), (Pt b21 0), (Fl r7), (Fl r30), (Pt b14 1), (Fl r3), (Pt b21 1), (Fl r9), (Fl r35), (Fl r40), (Pt b14 2), (Fl r5), (Pt b21 2), (Fl r11), (Fl r45), (Fl r50)]) rfl rfl (does_assign (u := (Fl r50)) (ev rfl)) rfl ?_
  refine wpList_nil (hK29 _ _ ?_)
  refine wp_ret ?_
  refine ret_val (v := (Fl r50)) (res_T rfl (slot rfl)) X54 ?_
  have x55 : cf .f32 r50 = innerF A_a A_b := by first | with_reducible rfl | (simp only [innerF, h2, h4, h6, h8, h10, h12, h31, h36, h41, h46, h51]; done) | (simp [innerF, h2, h4, h6, h8, h10, h12, h31, h36, h41, h46, h51]; done) | rfl
  exact ⟨r50, rfl, x55⟩

/- spec.l01Long -/
theorem c_spec_l01Long (v : List Value) (A_v : V3) (w : World) (hv_v : RV3 w A_v v) : Gives Try.prog 98 #[(.agg v.toArray)] w (fun v w' => ∃ r_1 : Nat, v = (Fl r_1) ∧ cf .f32 r_1 = longF A_v) := by
  obtain ⟨r1, r3, r5, rfl, h2, h4, h6⟩ := hv_v
  refine enter [(.agg #[(Fl r1), (Fl r3), (Fl r5)]), Ud, Ud, Ud, Ud, Ud, Ud] Try.func98 rfl Try.ntmps98 rfl ?_
  refine wp_seq_k fun K7 hK7 => ?_
  refine wp_region_lit ?_
  refine seqd rfl rfl (does_box (u := (.agg #[(Fl r1), (Fl r3), (Fl r5)])) (ev rfl)) ?_; rintro _ w12 ⟨b8, rfl, hb9, hB10, E11⟩
  have g13 : w.heap.size ≤ b8 := Nat.le_trans (Below.size (Ext.refl w)) hb9
  change Blk _ _ [(Fl r1), (Fl r3), (Fl r5)] at hB10
  have X14 := Ext.gr (Ext.refl w) E11
  show wpList _ _ _ _ (fr [(.agg #[(Fl r1), (Fl r3), (Fl r5)]), (Pt b8 0), Ud, Ud, Ud, Ud, Ud]) _
  refine q_is (l' := [(.agg #[(Fl r1), (Fl r3), (Fl r5)]), (Pt b8 0), (Fl 0), Ud, Ud, Ud, Ud]) rfl rfl (does_assign (u := (Fl 0)) (ev rfl)) rfl ?_
  refine wpList_nil (hK7 _ _ ?_)
  refine wp_seq_k fun K15 hK15 => ?_
  refine wp_region_lit ?_
  refine q_is (l' := [(.agg #[(Fl r1), (Fl r3), (Fl r5)]), (Pt b8 0), (Fl 0), (.agg #[(Fl r1), (Fl r3), (Fl r5)]), Ud, Ud, Ud]) rfl rfl (does_loadAgg (cs := [(Fl r1), (Fl r3), (Fl r5)]) (ev rfl) Try.isAgg26 Try.sizeOf26 (Blk.cells hB10) rfl) rfl ?_
  refine q_is (l' := [(.agg #[(Fl r1), (Fl r3), (Fl r5)]), (Pt b8 0), (Fl 0), (.agg #[(Fl r1), (Fl r3), (Fl r5)]), (.agg #[(Fl r1), (Fl r3), (Fl r5)]), Ud, Ud]) rfl rfl (does_loadAgg (cs := [(Fl r1), (Fl r3), (Fl r5)]) (ev rfl) Try.isAgg26 Try.sizeOf26 (Blk.cells hB10) rfl) rfl ?_
  refine seqd rfl rfl (does_call (args := #[(.agg #[(Fl r1), (Fl r3), (Fl r5)]), (.agg #[(Fl r1), (Fl r3), (Fl r5)])]) cal112 (evs rfl) (c_spec_l01Inner [(Fl r1), (Fl r3), (Fl r5)] A_v [(Fl r1), (Fl r3), (Fl r5)] A_v _ ⟨r1, r3, r5, rfl, h2, h4, h6⟩ ⟨r1, r3, r5, rfl, h2, h4, h6⟩)) ?_; rintro _ w17 ⟨E16, ⟨r18, rfl, h19⟩⟩
  have X20 := Ext.gr X14 E16
  show wpList _ _ _ _ (fr [(.agg #[(Fl r1), (Fl r3), (Fl r5)]), (Pt b8 0), (Fl 0), (.agg #[(Fl r1), (Fl r3), (Fl r5)]), (.agg #[(Fl r1), (Fl r3), (Fl r5)]), (Fl r18), Ud]) _
  refine seqd rfl rfl (does_call (args := #[(Fl r18)]) cal111 (evs rfl) (c_spec_l01Sqrt r18 _)) ?_; rintro _ w22 ⟨E21, ⟨r23, rfl, h24⟩⟩
  have X25 := Ext.gr X20 E21
  show wpList _ _ _ _ (fr [(.agg #[(Fl r1), (Fl r3), (Fl r5)]), (Pt b8 0), (Fl 0), (.agg #[(Fl r1), (Fl r3), (Fl r5)]), (.agg #[(Fl r1), (Fl r3), (Fl r5)]), (Fl r18), (Fl r23)]) _
  refine q_is (l' := [(.agg #[(Fl r1), (Fl r3), (Fl r5)]), (Pt b8 0), (Fl r23), (.agg #[(Fl r1), (Fl r3), (Fl r5)]), (.agg #[(Fl r1), (Fl r3), (Fl r5)]), (Fl r18), (Fl r23)]) rfl rfl (does_assign (u := (Fl r23)) (ev rfl)) rfl ?_
  refine wpList_nil (hK15 _ _ ?_)
  refine wp_ret ?_
  refine ret_val (v := (Fl r23)) (res_T rfl (slot rfl)) X25 ?_
  have x26 : cf .f32 r23 = longF A_v := by first | with_reducible rfl | (simp only [longF, h2, h4, h6, h19, h24]; done) | (simp [longF, h2, h4, h6, h19, h24]; done) | rfl
  exact ⟨r23, rfl, x26⟩

/- spec.l04Long -/
theorem c_spec_l04Long (x_ : List Value) (A_x_ : Rg) (y_ : List Value) (A_y_ : Rg) (z_ : List Value) (A_z_ : Rg) (w : World) (hv_x_ : RRg w A_x_ x_) (hv_y_ : RRg w A_y_ y_) (hv_z_ : RRg w A_z_ z_) : Gives Try.prog 61 #[(.agg x_.toArray), (.agg y_.toArray), (.agg z_.toArray)] w (fun v w' => ∃ cs_1 : List Value, v = (.agg cs_1.toArray) ∧ RRg w (longR A_x_ A_y_ A_z_) cs_1) := by
  obtain ⟨r1, r3, rfl, h2, h4⟩ := hv_x_
  obtain ⟨r5, r7, rfl, h6, h8⟩ := hv_y_
  obtain ⟨r9, r11, rfl, h10, h12⟩ := hv_z_
  refine enter [(.agg #[(Fl r1), (Fl r3)]), (.agg #[(Fl r5), (Fl r7)]), (.agg #[(Fl r9), (Fl r11)]), Ud, Ud, Ud, Ud, Ud, Ud, Ud, Ud, Ud, Ud, Ud, Ud, Ud, Ud, Ud, Ud, Ud, Ud, Ud, Ud, Ud, Ud, Ud, Ud, Ud, Ud, Ud, Ud, Ud] Try.func61 rfl Try.ntmps61 rfl ?_
  refine wp_seq_k fun K13 hK13 => ?_
  refine wp_region_lit ?_
  refine seqd rfl rfl (does_box (u := (.agg #[(Fl r1), (Fl r3)])) (ev rfl)) ?_; rintro _ w18 ⟨b14, rfl, hb15, hB16, E17⟩
  have g19 : w.heap.size ≤ b14 := Nat.le_trans (Below.size (Ext.refl w)) hb15
  change Blk _ _ [(Fl r1), (Fl r3)] at hB16
  have X20 := Ext.gr (Ext.refl w) E17
  show wpList _ _ _ _ (fr [(.agg #[(Fl r1), (Fl r3)]), (.agg #[(Fl r5), (Fl r7)]), (.agg #[(Fl r9), (Fl r11)]), (Pt b14 0), Ud, Ud, Ud, Ud, Ud, Ud, Ud, Ud, Ud, Ud, Ud, Ud, Ud, Ud, Ud, Ud, Ud, Ud, Ud, Ud, Ud, Ud, Ud, Ud, Ud, Ud, Ud, Ud]) _
  refine seqd rfl rfl (does_box (u := (.agg #[(Fl r5), (Fl r7)])) (ev rfl)) ?_; rintro _ w25 ⟨b21, rfl, hb22, hB23, E24⟩
  have n26 : b14 < b21 := Nat.lt_of_lt_of_le (Blk.lt hB16) hb22
  have g27 : w.heap.size ≤ b21 := Nat.le_trans (Below.size X20) hb22
  change Blk _ _ [(Fl r5), (Fl r7)] at hB23
  have X28 := Ext.gr X20 E24
  show wpList _ _ _ _ (fr [(.agg #[(Fl r1), (Fl r3)]), (.agg #[(Fl r5), (Fl r7)]), (.agg #[(Fl r9), (Fl r11)]), (Pt b14 0), (Pt b21 0), Ud, Ud, Ud, Ud, Ud, Ud, Ud, Ud, Ud, Ud, Ud, Ud, Ud, Ud, Ud, Ud, Ud, Ud, Ud, Ud, Ud, Ud, Ud, Ud, Ud, Ud, Ud]) _
  refine seqd rfl rfl (does_box (u := (.agg #[(Fl r9), (Fl r11)])) (ev rfl)) ?_; rintro _ w33 ⟨b29, rfl, hb30, hB31, E32⟩
  have n34 : b14 < b29 := Nat.lt_of_lt_of_le (Blk.lt (hB16.ext E24)) hb30
  have n35 : b21 < b29 := Nat.lt_of_lt_of_le (Blk.lt hB23) hb30
  have g36 : w.heap.size ≤ b29 := Nat.le_trans (Below.size X28) hb30
  change Blk _ _ [(Fl r9), (Fl r11)] at hB31
  have X37 := Ext.gr X28 E32
  show wpList _ _ _ _ (fr [(.agg #[(Fl r1), (Fl r3)]), (.agg #[(Fl r5), (Fl r7)]), (.agg #[(Fl r9), (Fl r11)]), (Pt b14 0), (Pt b21 0), (Pt b29 0), Ud, Ud, Ud, Ud, Ud, Ud, Ud, Ud, Ud, Ud, Ud, Ud, Ud, Ud, Ud, Ud, Ud, Ud, Ud, Ud, Ud, Ud, Ud, Ud, Ud, Ud]) _
  refine seqd rfl rfl (does_alloc z38) ?_; rintro _ w42 ⟨b38, rfl, hb39, hB40, E41⟩
  have n43 : b14 < b38 := Nat.lt_of_lt_of_le (Blk.lt ((hB16.ext E24).ext E32)) hb39
  have n44 : b21 < b38 := Nat.lt_of_lt_of_le (Blk.lt (hB23.ext E32)) hb39
  have n45 : b29 < b38 := Nat.lt_of_lt_of_le (Blk.lt hB31) hb39
  have g46 : w.heap.size ≤ b38 := Nat.le_trans (Below.size X37) hb39
  change Blk _ _ [(Fl 0), (Fl 0)] at hB40
  have X47 := Ext.gr X37 E41
  show wpList _ _ _ _ (fr [(.agg #[(Fl r1), (Fl r3)]), (.agg #[(Fl r5), (Fl r7)]), (.agg #[(Fl r9), (Fl r11)]), (Pt b14 0), (Pt b21 0), (Pt b29 0), (Pt b38 0), Ud, Ud, Ud, Ud, Ud, Ud, Ud, Ud, Ud, Ud, Ud, Ud, Ud, Ud, Ud, Ud, Ud, Ud, Ud, Ud, Ud, Ud, Ud, Ud, Ud]) _
  refine wpList_nil (hK13 _ _ ?_)
  refine wp_seq_k fun K48 hK48 => ?_
  refine wp_region_lit ?_
  refine q_is (l' := [(.agg #[(Fl r1), (Fl r3)]), (.agg #[(Fl r5), (Fl r7)]), (.agg #[(Fl r9), (Fl r11)]), (Pt b14 0), (Pt b21 0), (Pt b29 0), (Pt b38 0), Ud, (.agg #[(Fl r1), (Fl r3)]), Ud, Ud, Ud, Ud, Ud, Ud, Ud, Ud, Ud, Ud, Ud, Ud, Ud, Ud, Ud, Ud, Ud, Ud, Ud, Ud, Ud, Ud, Ud]) rfl rfl (does_loadAgg (cs := [(Fl r1), (Fl r3)]) (ev rfl) Try.isAgg38 Try.sizeOf38 (Blk.cells (((hB16.ext E24).ext E32).ext E41)) rfl) rfl ?_
  refine seqd rfl rfl (does_call (args := #[(.agg #[(Fl r1), (Fl r3)])]) cal97 (evs rfl) (c_spec_l04Size [(Fl r1), (Fl r3)] A_x_ _ ⟨r1, r3, rfl, h2, h4⟩)) ?_; rintro _ w50 ⟨E49, ⟨_, rfl, ⟨r51, r53, rfl, h52, h54⟩⟩⟩
  have X55 := Ext.gr X47 E49
  show wpList _ _ _ _ (fr [(.agg #[(Fl r1), (Fl r3)]), (.agg #[(Fl r5), (Fl r7)]), (.agg #[(Fl r9), (Fl r11)]), (Pt b14 0), (Pt b21 0), (Pt b29 0), (Pt b38 0), Ud, (.agg #[(Fl r1), (Fl r3)]), (.agg #[(Fl r51), (Fl r53)]), Ud, Ud, Ud, Ud, Ud, Ud, Ud, Ud, Ud, Ud, Ud, Ud, Ud, Ud, Ud, Ud, Ud, Ud, Ud, Ud, Ud, Ud]) _
  refine seqn rfl rfl (does_store (n := 2) (cs := [(Fl r1), (Fl r3)]) (u := (.agg #[(Fl r51), (Fl r53)])) (ev rfl) (ev rfl) Try.sizeOf38 rfl ((((hB16.ext E24).ext E32).ext E41).ext E49) (Nat.le_of_ble_eq_true rfl) rfl) ?_; rintro _ w58 ⟨rfl, W56, hB57⟩
  change Blk _ _ [(Fl r51), (Fl r53)] at hB57
  have X59 := Below.wr X55 W56 g19
  refine wpList_nil (hK48 _ _ ?_)
  refine wp_seq_k fun K60 hK60 => ?_
  refine wp_region_lit ?_
  refine q_is (l' := [(.agg #[(Fl r1), (Fl r3)]), (.agg #[(Fl r5), (Fl r7)]), (.agg #[(Fl r9), (Fl r11)]), (Pt b14 0), (Pt b21 0), (Pt b29 0), (Pt b38 0), Ud, (.agg #[(Fl r1), (Fl r3)]), (.agg #[(Fl r51), (Fl r53)]), (.agg #[(Fl r5), (Fl r7)]), Ud, Ud, Ud, Ud, Ud, Ud, Ud, Ud, Ud, Ud, Ud, Ud, Ud, Ud, Ud, Ud, Ud, Ud, Ud, Ud, Ud]) rfl rfl (does_loadAgg (cs := [(Fl r5), (Fl r7)]) (ev rfl) Try.isAgg38 Try.sizeOf38 (Blk.cells ((((hB23.ext E32).ext E41).ext E49).wr W56 (Nat.ne_of_gt n26))) rfl) rfl ?_
  refine seqd rfl rfl (does_call (args := #[(.agg #[(Fl r5), (Fl r7)])]) cal97 (evs rfl) (c_spec_l04Size [(Fl r5), (Fl r7)] A_y_ _ ⟨r5, r7, rfl, h6, h8⟩)) ?_; rintro _ w62 ⟨E61, ⟨_, rfl, ⟨r63, r65, rfl, h64, h66⟩⟩⟩
  have X67 := Ext.gr X59 E61
  show wpList _ _ _ _ (fr [(.agg #[(Fl r1), (Fl r3)]), (.agg #[(Fl r5), (Fl r7)]), (.agg #[(Fl r9), (Fl r11)]), (Pt b14 0), (Pt b21 0), (Pt b29 0), (Pt b38 0), Ud, (.agg #[(Fl r1), (Fl r3)]), (.agg #[(Fl r51), (Fl r53)]), (.agg #[(Fl r5), (Fl r7)]), (.agg #[(Fl r63), (Fl r65)]), Ud, Ud, Ud, Ud, Ud, Ud, Ud, Ud, Ud, Ud, Ud, Ud, Ud, Ud, Ud, Ud, Ud, Ud, Ud, Ud]) _
  refine seqn rfl rfl (does_store (n := 2) (cs := [(Fl r5), (Fl r7)]) (u := (.agg #[(Fl r63), (Fl r65)])) (ev rfl) (ev rfl) Try.sizeOf38 rfl (((((hB23.ext E32).ext E41).ext E49).wr W56 (Nat.ne_of_gt n26)).ext E61) (Nat.le_of_ble_eq_true rfl) rfl) ?_; rintro _ w70 ⟨rfl, W68, hB69⟩
  change Blk _ _ [(Fl r63), (Fl r65)] at hB69
  have X71 := Below.wr X67 W68 g27
  refine wpList_nil (hK60 _ _ ?_)
  refine wp_seq_k fun K72 hK72 => ?_
  refine wp_region_lit ?_
  refine q_is (l' := [(.agg #[(Fl r1), (Fl r3)]), (.agg #[(Fl r5), (Fl r7)]), (.agg #[(Fl r9), (Fl r11)]), (Pt b14 0), (Pt b21 0), (Pt b29 0), (Pt b38 0), Ud, (.agg #[(Fl r1), (Fl r3)]), (.agg #[(Fl r51), (Fl r53)]), (.agg #[(Fl r5), (Fl r7)]), (.agg #[(Fl r63), (Fl r65)]), (.agg #[(Fl r9), (Fl r11)]), Ud, Ud, Ud, Ud, Ud, Ud, Ud, Ud, Ud, Ud, Ud, Ud, Ud, Ud, Ud, Ud, Ud, Ud, Ud]) rfl rfl (does_loadAgg (cs := [(Fl r9), (Fl r11)]) (ev rfl) Try.isAgg38 Try.sizeOf38 (Blk.cells (((((hB31.ext E41).ext E49).wr W56 (Nat.ne_of_gt n34)).ext E61).wr W68 (Nat.ne_of_gt n35))) rfl) rfl ?_
  refine seqd rfl rfl (does_call (args := #[(.agg #[(Fl r9), (Fl r11)])]) cal97 (evs rfl) (c_spec_l04Size [(Fl r9), (Fl r11)] A_z_ _ ⟨r9, r11, rfl, h10, h12⟩)) ?_; rintro _ w74 ⟨E73, ⟨_, rfl, ⟨r75, r77, rfl, h76, h78⟩⟩⟩
  have X79 := Ext.gr X71 E73
  show wpList _ _ _ _ (fr [(.agg #[(Fl r1), (Fl r3)]), (.agg #[(Fl r5), (Fl r7)]), (.agg #[(Fl r9), (Fl r11)]), (Pt b14 0), (Pt b21 0), (Pt b29 0), (Pt b38 0), Ud, (.agg #[(Fl r1), (Fl r3)]), (.agg #[(Fl r51), (Fl r53)]), (.agg #[(Fl r5), (Fl r7)]), (.agg #[(Fl r63), (Fl r65)]), (.agg #[(Fl r9), (Fl r11)]), (.agg #[(Fl r75), (Fl r77)]), Ud, Ud, Ud, Ud, Ud, Ud, Ud, Ud, Ud, Ud, Ud, Ud, Ud, Ud, Ud, Ud, Ud, Ud]) _
  refine seqn rfl rfl (does_store (n := 2) (cs := [(Fl r9), (Fl r11)]) (u := (.agg #[(Fl r75), (Fl r77)])) (ev rfl) (ev rfl) Try.sizeOf38 rfl ((((((hB31.ext E41).ext E49).wr W56 (Nat.ne_of_gt n34)).ext E61).wr W68 (Nat.ne_of_gt n35)).ext E73) (Nat.le_of_ble_eq_true rfl) rfl) ?_; rintro _ w82 ⟨rfl, W80, hB81⟩
  change Blk _ _ [(Fl r75), (Fl r77)] at hB81
  have X83 := Below.wr X79 W80 g36
  refine wpList_nil (hK72 _ _ ?_)
  refine wp_seq_k fun K84 hK84 => ?_
  refine wp_region_lit ?_
  refine q_is (l' := [(.agg #[(Fl r1), (Fl r3)]), (.agg #[(Fl r5), (Fl r7)]), (.agg #[(Fl r9), (Fl r11)]), (Pt b14 0), (Pt b21 0), (Pt b29 0), (Pt b38 0), Ud, (.agg #[(Fl r1), (Fl r3)]), (.agg #[(Fl r51), (Fl r53)]), (.agg #[(Fl r5), (Fl r7)]), (.agg #[(Fl r63), (Fl r65)]), (.agg #[(Fl r9), (Fl r11)]), (.agg #[(Fl r75), (Fl r77)]), (Pt b14 0), Ud, Ud, Ud, Ud, Ud, Ud, Ud, Ud, Ud, Ud, Ud, Ud, Ud, Ud, Ud, Ud, Ud]) rfl rfl (does_fieldAddr (ev rfl) fa38_0) rfl ?_
  refine q_is (l' := [(.agg #[(Fl r1), (Fl r3)]), (.agg #[(Fl r5), (Fl r7)]), (.agg #[(Fl r9), (Fl r11)]), (Pt b14 0), (Pt b21 0), (Pt b29 0), (Pt b38 0), Ud, (.agg #[(Fl r1), (Fl r3)]), (.agg #[(Fl r51), (Fl r53)]), (.agg #[(Fl r5), (Fl r7)]), (.agg #[(Fl r63), (Fl r65)]), (.agg #[(Fl r9), (Fl r11)]), (.agg #[(Fl r75), (Fl r77)]), (Pt b14 0), (Fl r51), Ud, Ud, Ud, Ud, Ud, Ud, Ud, Ud, Ud, Ud, Ud, Ud, Ud, Ud, Ud, Ud]) rfl rfl (does_load (u := (Fl r51)) (ev rfl) Try.isAgg24 (Cells.at (Blk.cells ((((hB57.ext E61).wr W68 (Nat.ne_of_lt n26)).ext E73).wr W80 (Nat.ne_of_lt n34))) 0 rfl)) rfl ?_
  refine q_is (l' := [(.agg #[(Fl r1), (Fl r3)]), (.agg #[(Fl r5), (Fl r7)]), (.agg #[(Fl r9), (Fl r11)]), (Pt b14 0), (Pt b21 0), (Pt b29 0), (Pt b38 0), Ud, (.agg #[(Fl r1), (Fl r3)]), (.agg #[(Fl r51), (Fl r53)]), (.agg #[(Fl r5), (Fl r7)]), (.agg #[(Fl r63), (Fl r65)]), (.agg #[(Fl r9), (Fl r11)]), (.agg #[(Fl r75), (Fl r77)]), (Pt b14 0), (Fl r51), (Pt b21 0), Ud, Ud, Ud, Ud, Ud, Ud, Ud, Ud, Ud, Ud, Ud, Ud, Ud, Ud, Ud]) rfl rfl (does_fieldAddr (ev rfl) fa38_0) rfl ?_
  refine q_is (l' := [(.agg #[(Fl r1), (Fl r3)]), (.agg #[(Fl r5), (Fl r7)]), (.agg #[(Fl r9), (Fl r11)]), (Pt b14 0), (Pt b21 0), (Pt b29 0), (Pt b38 0), Ud, (.agg #[(Fl r1), (Fl r3)]), (.agg #[(Fl r51), (Fl r53)]), (.agg #[(Fl r5), (Fl r7)]), (.agg #[(Fl r63), (Fl r65)]), (.agg #[(Fl r9), (Fl r11)]), (.agg #[(Fl r75), (Fl r77)]), (Pt b14 0), (Fl r51), (Pt b21 0), (Fl r63), Ud, Ud, Ud, Ud, Ud, Ud, Ud, Ud, Ud, Ud, Ud, Ud, Ud, Ud]) rfl rfl (does_load (u := (Fl r63)) (ev rfl) Try.isAgg24 (Cells.at (Blk.cells ((hB69.ext E73).wr W80 (Nat.ne_of_lt n35))) 0 rfl)) rfl ?_
  refine q_is (l' := [(.agg #[(Fl r1), (Fl r3)]), (.agg #[(Fl r5), (Fl r7)]), (.agg #[(Fl r9), (Fl r11)]), (Pt b14 0), (Pt b21 0), (Pt b29 0), (Pt b38 0), Ud, (.agg #[(Fl r1), (Fl r3)]), (.agg #[(Fl r51), (Fl r53)]), (.agg #[(Fl r5), (Fl r7)]), (.agg #[(Fl r63), (Fl r65)]), (.agg #[(Fl r9), (Fl r11)]), (.agg #[(Fl r75), (Fl r77)]), (Pt b14 0), (Fl r51), (Pt b21 0), (Fl r63), (Pt b29 0), Ud, Ud, Ud, Ud, Ud, Ud, Ud, Ud, Ud, Ud, Ud, Ud, Ud]) rfl rfl (does_fieldAddr (ev rfl) fa38_0) rfl ?_
  refine q_is (l' := [(.agg #[(Fl r1), (Fl r3)]), (.agg #[(Fl r5), (Fl r7)]), (.agg #[(Fl r9), (Fl r11)]), (Pt b14 0), (Pt b21 0), (Pt b29 0), (Pt b38 0), Ud, (.agg #[(Fl r1), (Fl r3)]), (.agg #[(Fl r51), (Fl r53)]), (.agg #[(Fl r5), (Fl r7)]), (.agg #[(Fl r63), (Fl r65)]), (.agg #[(Fl r9), (Fl r11)]), (.agg #[(Fl r75), (Fl r77)]), (Pt b14 0), (Fl r51), (Pt b21 0), (Fl r63), (Pt b29 0), (Fl r75), Ud, Ud, Ud, Ud, Ud, Ud, Ud, Ud, Ud, Ud, Ud, Ud]) rfl rfl (does_load (u := (Fl r75)) (ev rfl) Try.isAgg24 (Cells.at (Blk.cells hB81) 0 rfl)) rfl ?_
  refine q_is (l' := [(.agg #[(Fl r1), (Fl r3)]), (.agg #[(Fl r5), (Fl r7)]), (.agg #[(Fl r9), (Fl r11)]), (Pt b14 0), (Pt b21 0), (Pt b29 0), (Pt b38 0), Ud, (.agg #[(Fl r1), (Fl r3)]), (.agg #[(Fl r51), (Fl r53)]), (.agg #[(Fl r5), (Fl r7)]), (.agg #[(Fl r63), (Fl r65)]), (.agg #[(Fl r9), (Fl r11)]), (.agg #[(Fl r75), (Fl r77)]), (Pt b14 0), (Fl r51), (Pt b21 0), (Fl r63), (Pt b29 0), (Fl r75), (.agg #[(Fl r51), (Fl r63), (Fl r75)]), Ud, Ud, Ud, Ud, Ud, Ud, Ud, Ud, Ud, Ud, Ud]) rfl rfl (does_build (parts' := [(0, (Fl r51)), (1, (Fl r63)), (2, (Fl r75))]) (cells := #[(Fl r51), (Fl r63), (Fl r75)]) (evp rfl) (by kernel_rfl)) rfl ?_
  refine seqd rfl rfl (does_call (args := #[(.agg #[(Fl r51), (Fl r63), (Fl r75)])]) cal98 (evs rfl) (c_spec_l01Long [(Fl r51), (Fl r63), (Fl r75)] (V3.mk ((szRange A_x_).lo) ((szRange A_y_).lo) ((szRange A_z_).lo)) _ ⟨r51, r63, r75, rfl, h52, h64, h76⟩)) ?_; rintro _ w86 ⟨E85, ⟨r87, rfl, h88⟩⟩
  have X89 := Ext.gr X83 E85
  show wpList _ _ _ _ (fr [(.agg #[(Fl r1), (Fl r3)]), (.agg #[(Fl r5), (Fl r7)]), (.agg #[(Fl r9), (Fl r11)]), (Pt b14 0), (Pt b21 0), (Pt b29 0), (Pt b38 0), Ud, (.agg #[(Fl r1), (Fl r3)]), (.agg #[(Fl r51), (Fl r53)]), (.agg #[(Fl r5), (Fl r7)]), (.agg #[(Fl r63), (Fl r65)]), (.agg #[(Fl r9), (Fl r11)]), (.agg #[(Fl r75), (Fl r77)]), (Pt b14 0), (Fl r51), (Pt b21 0), (Fl r63), (Pt b29 0), (Fl r75), (.agg #[(Fl r51), (Fl r63), (Fl r75)]), (Fl r87), Ud, Ud, Ud, Ud, Ud, Ud, Ud, Ud, Ud, Ud]) _
  refine q_is (l' := [(.agg #[(Fl r1), (Fl r3)]), (.agg #[(Fl r5), (Fl r7)]), (.agg #[(Fl r9), (Fl r11)]), (Pt b14 0), (Pt b21 0), (Pt b29 0), (Pt b38 0), (Fl r87), (.agg #[(Fl r1), (Fl r3)]), (.agg #[(Fl r51), (Fl r53)]), (.agg #[(Fl r5), (Fl r7)]), (.agg #[(Fl r63), (Fl r65)]), (.agg #[(Fl r9), (Fl r11)]), (.agg #[(Fl r75), (Fl r77)]), (Pt b14 0), (Fl r51), (Pt b21 0), (Fl r63), (Pt b29 0), (Fl r75), (.agg #[(Fl r51), (Fl r63), (Fl r75)]), (Fl r87), Ud, Ud, Ud, Ud, Ud, Ud, Ud, Ud, Ud, Ud]) rfl rfl (does_assign (u := (Fl r87)) (ev rfl)) rfl ?_
  refine wpList_nil (hK84 _ _ ?_)
  refine wp_seq_k fun K90 hK90 => ?_
  refine wp_region_lit ?_
  refine q_is (l' := [(.agg #[(Fl r1), (Fl r3)]), (.agg #[(Fl r5), (Fl r7)]), (.agg #[(Fl r9), (Fl r11)]), (Pt b14 0), (Pt b21 0), (Pt b29 0), (Pt b38 0), (Fl r87), (.agg #[(Fl r1), (Fl r3)]), (.agg #[(Fl r51), (Fl r53)]), (.agg #[(Fl r5), (Fl r7)]), (.agg #[(Fl r63), (Fl r65)]), (.agg #[(Fl r9), (Fl r11)]), (.agg #[(Fl r75), (Fl r77)]), (Pt b14 0), (Fl r51), (Pt b21 0), (Fl r63), (Pt b29 0), (Fl r75), (.agg #[(Fl r51), (Fl r63), (Fl r75)]), (Fl r87), (Fl r87), Ud, Ud, Ud, Ud, Ud, Ud, Ud, Ud, Ud]) rfl rfl (does_move (u := (Fl r87)) (ev rfl)) rfl ?_
  refine q_is (l' := [(.agg #[(Fl r1), (Fl r3)]), (.agg #[(Fl r5), (Fl r7)]), (.agg #[(Fl r9), (Fl r11)]), (Pt b14 0), (Pt b21 0), (Pt b29 0), (Pt b38 0), (Fl r87), (.agg #[(Fl r1), (Fl r3)]), (.agg #[(Fl r51), (Fl r53)]), (.agg #[(Fl r5), (Fl r7)]), (.agg #[(Fl r63), (Fl r65)]), (.agg #[(Fl r9), (Fl r11)]), (.agg #[(Fl r75), (Fl r77)]), (Pt b14 0), (Fl r51), (Pt b21 0), (Fl r63), (Pt b29 0), (Fl r75), (.agg #[(Fl r51), (Fl r63), (Fl r75)]), (Fl r87), (Fl r87), (Pt b14 1), Ud, Ud, Ud, Ud, Ud, Ud, Ud, Ud]) rfl rfl (does_fieldAddr (ev rfl) fa38_1) rfl ?_
  refine q_is (l' := [(.agg #[(Fl r1), (Fl r3)]), (.agg #[(Fl r5), (Fl r7)]), (.agg #[(Fl r9), (Fl r11)]), (Pt b14 0), (Pt b21 0), (Pt b29 0), (Pt b38 0), (Fl r87), (.agg #[(Fl r1), (Fl r3)]), (.agg #[(Fl r51), (Fl r53)]), (.agg #[(Fl r5), (Fl r7)]), (.agg #[(Fl r63), (Fl r65)]), (.agg #[(Fl r9), (Fl r11)]), (.agg #[(Fl r75), (Fl r77)]), (Pt b14 0), (Fl r51), (Pt b21 0), (Fl r63), (Pt b29 0), (Fl r75), (.agg #[(Fl r51), (Fl r63), (Fl r75)]), (Fl r87), (Fl r87), (Pt b14 1), (Fl r53), Ud, Ud, Ud, Ud, Ud, Ud, Ud]) rfl rfl (does_load (u := (Fl r53)) (ev rfl) Try.isAgg24 (Cells.at (Blk.cells (((((hB57.ext E61).wr W68 (Nat.ne_of_lt n26)).ext E73).wr W80 (Nat.ne_of_lt n34)).ext E85)) 1 rfl)) rfl ?_
  refine q_is (l' := [(.agg #[(Fl r1), (Fl r3)]), (.agg #[(Fl r5), (Fl r7)]), (.agg #[(Fl r9), (Fl r11)]), (Pt b14 0), (Pt b21 0), (Pt b29 0), (Pt b38 0), (Fl r87), (.agg #[(Fl r1), (Fl r3)]), (.agg #[(Fl r51), (Fl r53)]), (.agg #[(Fl r5), (Fl r7)]), (.agg #[(Fl r63), (Fl r65)]), (.agg #[(Fl r9), (Fl r11)]), (.agg #[(Fl r75), (Fl r77)]), (Pt b14 0), (Fl r51), (Pt b21 0), (Fl r63), (Pt b29 0), (Fl r75), (.agg #[(Fl r51), (Fl r63), (Fl r75)]), (Fl r87), (Fl r87), (Pt b14 1), (Fl r53), (Pt b21 1), Ud, Ud, Ud, Ud, Ud, Ud]) rfl rfl (does_fieldAddr (ev rfl) fa38_1) rfl ?_
  refine q_is (l' := [(.agg #[(Fl r1), (Fl r3)]), (.agg #[(Fl r5), (Fl r7)]), (.agg #[(Fl r9), (Fl r11)]), (Pt b14 0), (Pt b21 0), (Pt b29 0), (Pt b38 0), (Fl r87), (.agg #[(Fl r1), (Fl r3)]), (.agg #[(Fl r51), (Fl r53)]), (.agg #[(Fl r5), (Fl r7)]), (.agg #[(Fl r63), (Fl r65)]), (.agg #[(Fl r9), (Fl r11)]), (.agg #[(Fl r75), (Fl r77)]), (Pt b14 0), (Fl r51), (Pt b21 0), (Fl r63), (Pt b29 0), (Fl r75), (.agg #[(Fl r51), (Fl r63), (Fl r75)]), (Fl r87), (Fl r87), (Pt b14 1), (Fl r53), (Pt b21 1), (Fl r65), Ud, Ud, Ud, Ud, Ud]) rfl rfl (does_load (u := (Fl r65)) (ev rfl) Try.isAgg24 (Cells.at (Blk.cells (((hB69.ext E73).wr W80 (Nat.ne_of_lt n35)).ext E85)) 1 rfl)) rfl ?_
  refine q_is (l' := [(.agg #[(Fl r1), (Fl r3)]), (.agg #[(Fl r5), (Fl r7)]), (.agg #[(Fl r9), (Fl r11)]), (Pt b14 0), (Pt b21 0), (Pt b29 0), (Pt b38 0), (Fl r87), (.agg #[(Fl r1), (Fl r3)]), (.agg #[(Fl r51), (Fl r53)]), (.agg #[(Fl r5), (Fl r7)]), (.agg #[(Fl r63), (Fl r65)]), (.agg #[(Fl r9), (Fl r11)]), (.agg #[(Fl r75), (Fl r77)]), (Pt b14 0), (Fl r51), (Pt b21 0), (Fl r63), (Pt b29 0), (Fl r75), (.agg #[(Fl r51), (Fl r63), (Fl r75)]), (Fl r87), (Fl r87), (Pt b14 1), (Fl r53), (Pt b21 1), (Fl r65), (Pt b29 1), Ud, Ud, Ud, Ud]) rfl rfl (does_fieldAddr (ev rfl) fa38_1) rfl ?_
  refine q_is (l' := [(.agg #[(Fl r1), (Fl r3)]), (.agg #[(Fl r5), (Fl r7)]), (.agg #[(Fl r9), (Fl r11)]), (Pt b14 0), (Pt b21 0), (Pt b29 0), (Pt b38 0), (Fl r87), (.agg #[(Fl r1), (Fl r3)]), (.agg #[(Fl r51), (Fl r53)]), (.agg #[(Fl r5), (Fl r7)]), (.agg #[(Fl r63), (Fl r65)]), (.agg #[(Fl r9), (Fl r11)]), (.agg #[(Fl r75), (Fl r77)]), (Pt b14 0), (Fl r51), (Pt b21 0), (Fl r63), (Pt b29 0), (Fl r75), (.agg #[(Fl r51), (Fl r63), (Fl r75)]), (Fl r87), (Fl r87), (Pt b14 1), (Fl r53), (Pt b21 1), (Fl r65), (Pt b29 1), (Fl r77), Ud, Ud, Ud]) rfl rfl (does_load (u := (Fl r77)) (ev rfl) Try.isAgg24 (Cells.at (Blk.cells (hB81.ext E85)) 1 rfl)) rfl ?_
  refine q_is (l' := [(.agg #[(Fl r1), (Fl r3)]), (.agg #[(Fl r5), (Fl r7)]), (.agg #[(Fl r9), (Fl r11)]), (Pt b14 0), (Pt b21 0), (Pt b29 0), (Pt b38 0), (Fl r87), (.agg #[(Fl r1), (Fl r3)]), (.agg #[(Fl r51), (Fl r53)]), (.agg #[(Fl r5), (Fl r7)]), (.agg #[(Fl r63), (Fl r65)]), (.agg #[(Fl r9), (Fl r11)]), (.agg #[(Fl r75), (Fl r77)]), (Pt b14 0), (Fl r51), (Pt b21 0), (Fl r63), (Pt b29 0), (Fl r75), (.agg #[(Fl r51), (Fl r63), (Fl r75)]), (Fl r87), (Fl r87), (Pt b14 1), (Fl r53), (Pt b21 1), (Fl r65), (Pt b29 1), (Fl r77), (.agg #[(Fl r53), (Fl r65), (Fl r77)]), Ud, Ud]) rfl rfl (does_build (parts' := [(0, (Fl r53)), (1, (Fl r65)), (2, (Fl r77))]) (cells := #[(Fl r53), (Fl r65), (Fl r77)]) (evp rfl) (by kernel_rfl)) rfl ?_
  refine seqd rfl rfl (does_call (args := #[(.agg #[(Fl r53), (Fl r65), (Fl r77)])]) cal98 (evs rfl) (c_spec_l01Long [(Fl r53), (Fl r65), (Fl r77)] (V3.mk ((szRange A_x_).hi) ((szRange A_y_).hi) ((szRange A_z_).hi)) _ ⟨r53, r65, r77, rfl, h54, h66, h78⟩)) ?_; rintro _ w92 ⟨E91, ⟨r93, rfl, h94⟩⟩
  have X95 := Ext.gr X89 E91
  show wpList _ _ _ _ (fr [(.agg #[(Fl r1), (Fl r3)]), (.agg #[(Fl r5), (Fl r7)]), (.agg #[(Fl r9), (Fl r11)]), (Pt b14 0), (Pt b21 0), (Pt b29 0), (Pt b38 0), (Fl r87), (.agg #[(Fl r1), (Fl r3)]), (.agg #[(Fl r51), (Fl r53)]), (.agg #[(Fl r5), (Fl r7)]), (.agg #[(Fl r63), (Fl r65)]), (.agg #[(Fl r9), (Fl r11)]), (.agg #[(Fl r75), (Fl r77)]), (Pt b14 0), (Fl r51), (Pt b21 0), (Fl r63), (Pt b29 0), (Fl r75), (.agg #[(Fl r51), (Fl r63), (Fl r75)]), (Fl r87), (Fl r87), (Pt b14 1), (Fl r53), (Pt b21 1), (Fl r65), (Pt b29 1), (Fl r77), (.agg #[(Fl r53), (Fl r65), (Fl r77)]), (Fl r93), Ud]) _
  refine q_is (l' := [(.agg #[(Fl r1), (Fl r3)]), (.agg #[(Fl r5), (Fl r7)]), (.agg #[(Fl r9), (Fl r11)]), (Pt b14 0), (Pt b21 0), (Pt b29 0), (Pt b38 0), (Fl r87), (.agg #[(Fl r1), (Fl r3)]), (.agg #[(Fl r51), (Fl r53)]), (.agg #[(Fl r5), (Fl r7)]), (.agg #[(Fl r63), (Fl r65)]), (.agg #[(Fl r9), (Fl r11)]), (.agg #[(Fl r75), (Fl r77)]), (Pt b14 0), (Fl r51), (Pt b21 0), (Fl r63), (Pt b29 0), (Fl r75), (.agg #[(Fl r51), (Fl r63), (Fl r75)]), (Fl r87), (Fl r87), (Pt b14 1), (Fl r53), (Pt b21 1), (Fl r65), (Pt b29 1), (Fl r77), (.agg #[(Fl r53), (Fl r65), (Fl r77)]), (Fl r93), (.agg #[(Fl r87), (Fl r93)])]) rfl rfl (does_build (parts' := [(0, (Fl r87)), (1, (Fl r93))]) (cells := #[(Fl r87), (Fl r93)]) (evp rfl) (by kernel_rfl)) rfl ?_
  refine seqn rfl rfl (does_store (n := 2) (cs := [(Fl 0), (Fl 0)]) (u := (.agg #[(Fl r87), (Fl r93)])) (ev rfl) (ev rfl) Try.sizeOf38 rfl ((((((((hB40.ext E49).wr W56 (Nat.ne_of_gt n43)).ext E61).wr W68 (Nat.ne_of_gt n44)).ext E73).wr W80 (Nat.ne_of_gt n45)).ext E85).ext E91) (Nat.le_of_ble_eq_true rfl) rfl) ?_; rintro _ w98 ⟨rfl, W96, hB97⟩
  change Blk _ _ [(Fl r87), (Fl r93)] at hB97
  have X99 := Below.wr X95 W96 g46
  refine wpList_nil (hK90 _ _ ?_)
  refine wp_ret ?_
  refine ret_val (v := (.agg #[(Fl r87), (Fl r93)])) (res_C rfl (slot rfl) (run_loadAgg (cs := [(Fl r87), (Fl r93)]) Try.isAgg38 Try.sizeOf38 (Blk.cells hB97) rfl)) X99 ?_
  have x100 : cf .f32 r87 = (longR A_x_ A_y_ A_z_).lo := by first | with_reducible rfl | (simp only [longR, h2, h4, h6, h8, h10, h12, h52, h54, h64, h66, h76, h78, h88, h94]; done) | (simp [longR, h2, h4, h6, h8, h10, h12, h52, h54, h64, h66, h76, h78, h88, h94]; done) | rfl
  have x101 : cf .f32 r93 = (longR A_x_ A_y_ A_z_).hi := by first | with_reducible rfl | (simp only [longR, h2, h4, h6, h8, h10, h12, h52, h54, h64, h66, h76, h78, h88, h94]; done) | (simp [longR, h2, h4, h6, h8, h10, h12, h52, h54, h64, h66, h76, h78, h88, h94]; done) | rfl
  exact ⟨[(Fl r87), (Fl r93)], rfl, ⟨r87, r93, rfl, x100, x101⟩⟩

/- spec.LongRange -/
theorem c_spec_LongRange (x_ : List Value) (A_x_ : Rg) (y_ : List Value) (A_y_ : Rg) (z_ : List Value) (A_z_ : Rg) (w : World) (hv_x_ : RRg w A_x_ x_) (hv_y_ : RRg w A_y_ y_) (hv_z_ : RRg w A_z_ z_) : Gives Try.prog 19 #[(.agg x_.toArray), (.agg y_.toArray), (.agg z_.toArray)] w (fun v w' => ∃ cs_1 : List Value, v = (.agg cs_1.toArray) ∧ RRg w (longR A_x_ A_y_ A_z_) cs_1) := by
  obtain ⟨r1, r3, rfl, h2, h4⟩ := hv_x_
  obtain ⟨r5, r7, rfl, h6, h8⟩ := hv_y_
  obtain ⟨r9, r11, rfl, h10, h12⟩ := hv_z_
  refine enter [(.agg #[(Fl r1), (Fl r3)]), (.agg #[(Fl r5), (Fl r7)]), (.agg #[(Fl r9), (Fl r11)]), Ud, Ud, Ud, Ud, Ud, Ud, Ud, Ud] Try.func19 rfl Try.ntmps19 rfl ?_
  refine wp_seq_k fun K13 hK13 => ?_
  refine wp_region_lit ?_
  refine seqd rfl rfl (does_box (u := (.agg #[(Fl r1), (Fl r3)])) (ev rfl)) ?_; rintro _ w18 ⟨b14, rfl, hb15, hB16, E17⟩
  have g19 : w.heap.size ≤ b14 := Nat.le_trans (Below.size (Ext.refl w)) hb15
  change Blk _ _ [(Fl r1), (Fl r3)] at hB16
  have X20 := Ext.gr (Ext.refl w) E17
  show wpList _ _ _ _ (fr [(.agg #[(Fl r1), (Fl r3)]), (.agg #[(Fl r5), (Fl r7)]), (.agg #[(Fl r9), (Fl r11)]), (Pt b14 0), Ud, Ud, Ud, Ud, Ud, Ud, Ud]) _
  refine seqd rfl rfl (does_box (u := (.agg #[(Fl r5), (Fl r7)])) (ev rfl)) ?_; rintro _ w25 ⟨b21, rfl, hb22, hB23, E24⟩
  have n26 : b14 < b21 := Nat.lt_of_lt_of_le (Blk.lt hB16) hb22
  have g27 : w.heap.size ≤ b21 := Nat.le_trans (Below.size X20) hb22
  change Blk _ _ [(Fl r5), (Fl r7)] at hB23
  have X28 := Ext.gr X20 E24
  show wpList _ _ _ _ (fr [(.agg #[(Fl r1), (Fl r3)]), (.agg #[(Fl r5), (Fl r7)]), (.agg #[(Fl r9), (Fl r11)]), (Pt b14 0), (Pt b21 0), Ud, Ud, Ud, Ud, Ud, Ud]) _
  refine seqd rfl rfl (does_box (u := (.agg #[(Fl r9), (Fl r11)])) (ev rfl)) ?_; rintro _ w33 ⟨b29, rfl, hb30, hB31, E32⟩
  have n34 : b14 < b29 := Nat.lt_of_lt_of_le (Blk.lt (hB16.ext E24)) hb30
  have n35 : b21 < b29 := Nat.lt_of_lt_of_le (Blk.lt hB23) hb30
  have g36 : w.heap.size ≤ b29 := Nat.le_trans (Below.size X28) hb30
  change Blk _ _ [(Fl r9), (Fl r11)] at hB31
  have X37 := Ext.gr X28 E32
  show wpList _ _ _ _ (fr [(.agg #[(Fl r1), (Fl r3)]), (.agg #[(Fl r5), (Fl r7)]), (.agg #[(Fl r9), (Fl r11)]), (Pt b14 0), (Pt b21 0), (Pt b29 0), Ud, Ud, Ud, Ud, Ud]) _
  refine seqd rfl rfl (does_alloc z38) ?_; rintro _ w42 ⟨b38, rfl, hb39, hB40, E41⟩
  have n43 : b14 < b38 := Nat.lt_of_lt_of_le (Blk.lt ((hB16.ext E24).ext E32)) hb39
  have n44 : b21 < b38 := Nat.lt_of_lt_of_le (Blk.lt (hB23.ext E32)) hb39
  have n45 : b29 < b38 := Nat.lt_of_lt_of_le (Blk.lt hB31) hb39
  have g46 : w.heap.size ≤ b38 := Nat.le_trans (Below.size X37) hb39
  change Blk _ _ [(Fl 0), (Fl 0)] at hB40
  have X47 := Ext.gr X37 E41
  show wpList _ _ _ _ (fr [(.agg #[(Fl r1), (Fl r3)]), (.agg #[(Fl r5), (Fl r7)]), (.agg #[(Fl r9), (Fl r11)]), (Pt b14 0), (Pt b21 0), (Pt b29 0), (Pt b38 0), Ud, Ud, Ud, Ud]) _
  refine wpList_nil (hK13 _ _ ?_)
  refine wp_seq_k fun K48 hK48 => ?_
  refine wp_region_lit ?_
  refine q_is (l' := [(.agg #[(Fl r1), (Fl r3)]), (.agg #[(Fl r5), (Fl r7)]), (.agg #[(Fl r9), (Fl r11)]), (Pt b14 0), (Pt b21 0), (Pt b29 0), (Pt b38 0), (.agg #[(Fl r1), (Fl r3)]), Ud, Ud, Ud]) rfl rfl (does_loadAgg (cs := [(Fl r1), (Fl r3)]) (ev rfl) Try.isAgg38 Try.sizeOf38 (Blk.cells (((hB16.ext E24).ext E32).ext E41)) rfl) rfl ?_
  refine q_is (l' := [(.agg #[(Fl r1), (Fl r3)]), (.agg #[(Fl r5), (Fl r7)]), (.agg #[(Fl r9), (Fl r11)]), (Pt b14 0), (Pt b21 0), (Pt b29 0), (Pt b38 0), (.agg #[(Fl r1), (Fl r3)]), (.agg #[(Fl r5), (Fl r7)]), Ud, Ud]) rfl rfl (does_loadAgg (cs := [(Fl r5), (Fl r7)]) (ev rfl) Try.isAgg38 Try.sizeOf38 (Blk.cells ((hB23.ext E32).ext E41)) rfl) rfl ?_
  refine q_is (l' := [(.agg #[(Fl r1), (Fl r3)]), (.agg #[(Fl r5), (Fl r7)]), (.agg #[(Fl r9), (Fl r11)]), (Pt b14 0), (Pt b21 0), (Pt b29 0), (Pt b38 0), (.agg #[(Fl r1), (Fl r3)]), (.agg #[(Fl r5), (Fl r7)]), (.agg #[(Fl r9), (Fl r11)]), Ud]) rfl rfl (does_loadAgg (cs := [(Fl r9), (Fl r11)]) (ev rfl) Try.isAgg38 Try.sizeOf38 (Blk.cells (hB31.ext E41)) rfl) rfl ?_
  refine seqd rfl rfl (does_call (args := #[(.agg #[(Fl r1), (Fl r3)]), (.agg #[(Fl r5), (Fl r7)]), (.agg #[(Fl r9), (Fl r11)])]) cal61 (evs rfl) (c_spec_l04Long [(Fl r1), (Fl r3)] A_x_ [(Fl r5), (Fl r7)] A_y_ [(Fl r9), (Fl r11)] A_z_ _ ⟨r1, r3, rfl, h2, h4⟩ ⟨r5, r7, rfl, h6, h8⟩ ⟨r9, r11, rfl, h10, h12⟩)) ?_; rintro _ w50 ⟨E49, ⟨_, rfl, ⟨r51, r53, rfl, h52, h54⟩⟩⟩
  have X55 := Ext.gr X47 E49
  show wpList _ _ _ _ (fr [(.agg #[(Fl r1), (Fl r3)]), (.agg #[(Fl r5), (Fl r7)]), (.agg #[(Fl r9), (Fl r11)]), (Pt b14 0), (Pt b21 0), (Pt b29 0), (Pt b38 0), (.agg #[(Fl r1), (Fl r3)]), (.agg #[(Fl r5), (Fl r7)]), (.agg #[(Fl r9), (Fl r11)]), (.agg #[(Fl r51), (Fl r53)])]) _
  refine seqn rfl rfl (does_store (n := 2) (cs := [(Fl 0), (Fl 0)]) (u := (.agg #[(Fl r51), (Fl r53)])) (ev rfl) (ev rfl) Try.sizeOf38 rfl (hB40.ext E49) (Nat.le_of_ble_eq_true rfl) rfl) ?_; rintro _ w58 ⟨rfl, W56, hB57⟩
  change Blk _ _ [(Fl r51), (Fl r53)] at hB57
  have X59 := Below.wr X55 W56 g46
  refine wpList_nil (hK48 _ _ ?_)
  refine wp_ret ?_
  refine ret_val (v := (.agg #[(Fl r51), (Fl r53)])) (res_C rfl (slot rfl) (run_loadAgg (cs := [(Fl r51), (Fl r53)]) Try.isAgg38 Try.sizeOf38 (Blk.cells hB57) rfl)) X59 ?_
  exact ⟨[(Fl r51), (Fl r53)], rfl, ⟨r51, r53, rfl, h52, h54⟩⟩

/- laws.toRange -/
theorem c_laws_toRange (r : List Value) (A_r : Rg) (w : World) (hv_r : RRg w A_r r) : Gives Try.prog 20 #[(.agg r.toArray)] w (fun v w' => ∃ cs_1 : List Value, v = (.agg cs_1.toArray) ∧ RRg w A_r cs_1) := by
  obtain ⟨r1, r3, rfl, h2, h4⟩ := hv_r
  refine enter [(.agg #[(Fl r1), (Fl r3)]), Ud, Ud, Ud, Ud, Ud, Ud, Ud, Ud, Ud, Ud] Try.func20 rfl Try.ntmps20 rfl ?_
  refine wp_seq_k fun K5 hK5 => ?_
  refine wp_region_lit ?_
  refine seqd rfl rfl (does_box (u := (.agg #[(Fl r1), (Fl r3)])) (ev rfl)) ?_; rintro _ w10 ⟨b6, rfl, hb7, hB8, E9⟩
  have g11 : w.heap.size ≤ b6 := Nat.le_trans (Below.size (Ext.refl w)) hb7
  change Blk _ _ [(Fl r1), (Fl r3)] at hB8
  have X12 := Ext.gr (Ext.refl w) E9
  show wpList _ _ _ _ (fr [(.agg #[(Fl r1), (Fl r3)]), (Pt b6 0), Ud, Ud, Ud, Ud, Ud, Ud, Ud, Ud, Ud]) _
  refine seqd rfl rfl (does_alloc z38) ?_; rintro _ w17 ⟨b13, rfl, hb14, hB15, E16⟩
  have n18 : b6 < b13 := Nat.lt_of_lt_of_le (Blk.lt hB8) hb14
  have g19 : w.heap.size ≤ b13 := Nat.le_trans (Below.size X12) hb14
  change Blk _ _ [(Fl 0), (Fl 0)] at hB15
  have X20 := Ext.gr X12 E16
  show wpList _ _ _ _ (fr [(.agg #[(Fl r1), (Fl r3)]), (Pt b6 0), (Pt b13 0), Ud, Ud, Ud, Ud, Ud, Ud, Ud, Ud]) _
  refine wpList_nil (hK5 _ _ ?_)
  refine wp_seq_k fun K21 hK21 => ?_
  refine wp_region_lit ?_
  refine seqd rfl rfl (does_alloc z38) ?_; rintro _ w26 ⟨b22, rfl, hb23, hB24, E25⟩
  have n27 : b6 < b22 := Nat.lt_of_lt_of_le (Blk.lt (hB8.ext E16)) hb23
  have n28 : b13 < b22 := Nat.lt_of_lt_of_le (Blk.lt hB15) hb23
  have g29 : w.heap.size ≤ b22 := Nat.le_trans (Below.size X20) hb23
  change Blk _ _ [(Fl 0), (Fl 0)] at hB24
  have X30 := Ext.gr X20 E25
  show wpList _ _ _ _ (fr [(.agg #[(Fl r1), (Fl r3)]), (Pt b6 0), (Pt b13 0), (Pt b22 0), Ud, Ud, Ud, Ud, Ud, Ud, Ud]) _
  refine wpList_nil (hK21 _ _ ?_)
  refine wp_seq_k fun K31 hK31 => ?_
  refine wp_region_lit ?_
  refine q_is (l' := [(.agg #[(Fl r1), (Fl r3)]), (Pt b6 0), (Pt b13 0), (Pt b22 0), (Pt b6 0), Ud, Ud, Ud, Ud, Ud, Ud]) rfl rfl (does_fieldAddr (ev rfl) fa37_0) rfl ?_
  refine q_is (l' := [(.agg #[(Fl r1), (Fl r3)]), (Pt b6 0), (Pt b13 0), (Pt b22 0), (Pt b6 0), (Fl r1), Ud, Ud, Ud, Ud, Ud]) rfl rfl (does_load (u := (Fl r1)) (ev rfl) Try.isAgg24 (Cells.at (Blk.cells ((hB8.ext E16).ext E25)) 0 rfl)) rfl ?_
  refine q_is (l' := [(.agg #[(Fl r1), (Fl r3)]), (Pt b6 0), (Pt b13 0), (Pt b22 0), (Pt b6 0), (Fl r1), (Pt b22 0), Ud, Ud, Ud, Ud]) rfl rfl (does_fieldAddr (ev rfl) fa38_0) rfl ?_
  refine seqn rfl rfl (does_store (n := 1) (cs := [(Fl 0), (Fl 0)]) (u := (Fl r1)) (ev rfl) (ev rfl) Try.sizeOf24 rfl hB24 (Nat.le_of_ble_eq_true rfl) rfl) ?_; rintro _ w34 ⟨rfl, W32, hB33⟩
  change Blk _ _ [(Fl r1), (Fl 0)] at hB33
  have X35 := Below.wr X30 W32 g29
  refine wpList_nil (hK31 _ _ ?_)
  refine wp_seq_k fun K36 hK36 => ?_
  refine wp_region_lit ?_
  refine q_is (l' := [(.agg #[(Fl r1), (Fl r3)]), (Pt b6 0), (Pt b13 0), (Pt b22 0), (Pt b6 0), (Fl r1), (Pt b22 0), (Pt b6 1), Ud, Ud, Ud]) rfl rfl (does_fieldAddr (ev rfl) fa37_1) rfl ?_
  refine q_is (l' := [(.agg #[(Fl r1), (Fl r3)]), (Pt b6 0), (Pt b13 0), (Pt b22 0), (Pt b6 0), (Fl r1), (Pt b22 0), (Pt b6 1), (Fl r3), Ud, Ud]) rfl rfl (does_load (u := (Fl r3)) (ev rfl) Try.isAgg24 (Cells.at (Blk.cells (((hB8.ext E16).ext E25).wr W32 (Nat.ne_of_lt n27))) 1 rfl)) rfl ?_
  refine q_is (l' := [(.agg #[(Fl r1), (Fl r3)]), (Pt b6 0), (Pt b13 0), (Pt b22 0), (Pt b6 0), (Fl r1), (Pt b22 0), (Pt b6 1), (Fl r3), (Pt b22 1), Ud]) rfl rfl (does_fieldAddr (ev rfl) fa38_1) rfl ?_
  refine seqn rfl rfl (does_store (n := 1) (cs := [(Fl r1), (Fl 0)]) (u := (Fl r3)) (ev rfl) (ev rfl) Try.sizeOf24 rfl hB33 (Nat.le_of_ble_eq_true rfl) rfl) ?_; rintro _ w39 ⟨rfl, W37, hB38⟩
  change Blk _ _ [(Fl r1), (Fl r3)] at hB38
  have X40 := Below.wr X35 W37 g29
  refine wpList_nil (hK36 _ _ ?_)
  refine wp_seq_k fun K41 hK41 => ?_
  refine wp_region_lit ?_
  refine q_is (l' := [(.agg #[(Fl r1), (Fl r3)]), (Pt b6 0), (Pt b13 0), (Pt b22 0), (Pt b6 0), (Fl r1), (Pt b22 0), (Pt b6 1), (Fl r3), (Pt b22 1), (.agg #[(Fl r1), (Fl r3)])]) rfl rfl (does_loadAgg (cs := [(Fl r1), (Fl r3)]) (ev rfl) Try.isAgg38 Try.sizeOf38 (Blk.cells hB38) rfl) rfl ?_
  refine seqn rfl rfl (does_store (n := 2) (cs := [(Fl 0), (Fl 0)]) (u := (.agg #[(Fl r1), (Fl r3)])) (ev rfl) (ev rfl) Try.sizeOf38 rfl (((hB15.ext E25).wr W32 (Nat.ne_of_lt n28)).wr W37 (Nat.ne_of_lt n28)) (Nat.le_of_ble_eq_true rfl) rfl) ?_; rintro _ w44 ⟨rfl, W42, hB43⟩
  change Blk _ _ [(Fl r1), (Fl r3)] at hB43
  have X45 := Below.wr X40 W42 g19
  refine wpList_nil (hK41 _ _ ?_)
  refine wp_ret ?_
  refine ret_val (v := (.agg #[(Fl r1), (Fl r3)])) (res_C rfl (slot rfl) (run_loadAgg (cs := [(Fl r1), (Fl r3)]) Try.isAgg38 Try.sizeOf38 (Blk.cells hB43) rfl)) X45 ?_
  exact ⟨[(Fl r1), (Fl r3)], rfl, ⟨r1, r3, rfl, h2, h4⟩⟩

/- impl.greater -/
theorem c_impl_greater (x : Nat) (y : Nat) (w : World) : Gives Try.prog 60 #[(Fl x), (Fl y)] w (fun v w' => ∃ r_1 : Nat, v = (Fl r_1) ∧ cf .f32 r_1 = fmaxG (cf .f32 x) (cf .f32 y)) := by
  refine enter [(Fl x), (Fl y), Ud, Ud, Ud, Ud, Ud, Ud, Ud, Ud] Try.func60 rfl Try.ntmps60 rfl ?_
  refine wp_seq_k fun K1 hK1 => ?_
  refine wp_region_lit ?_
  refine q_is (l' := [(Fl x), (Fl y), Ud, Ud, (Fl 0), Ud, Ud, Ud, Ud, Ud]) rfl rfl (does_assign (u := (Fl 0)) (ev rfl)) rfl ?_
  refine wpList_nil (hK1 _ _ ?_)
  refine wp_seq_k fun K2 hK2 => ?_
  refine wp_seq_k fun K3 hK3 => ?_
  refine wp_region_lit ?_
  refine q_is (l' := [(Fl x), (Fl y), Ud, Ud, (Fl 0), (Fl y), Ud, Ud, Ud, Ud]) rfl rfl (does_move (u := (Fl y)) (ev rfl)) rfl ?_
  refine q_is (l' := [(Fl x), (Fl y), Ud, Ud, (Fl 0), (Fl y), (Fl x), Ud, Ud, Ud]) rfl rfl (does_move (u := (Fl x)) (ev rfl)) rfl ?_
  refine q_is (l' := [(Fl x), (Fl y), Ud, Ud, (Fl 0), (Fl y), (Fl x), (Bo (fcmp .gtr (ford .f32 (cf .f32 y) (cf .f32 x)))), Ud, Ud]) rfl rfl (does_fcmp (.inr (.inr (.inr (.inr (.inl rfl))))) (ev rfl) (ev rfl)) rfl ?_
  refine wpList_nil (hK3 _ _ ?_)
  refine wp_cond_split (t := fcmp .gtr (ford .f32 (cf .f32 y) (cf .f32 x))) (ev rfl) (fun c4 => ?_) (fun c4 => ?_)
  · have c4' := c4
    refine wp_seq_k fun K5 hK5 => ?_
    refine wp_region_lit ?_
    refine q_is (l' := [(Fl x), (Fl y), Ud, Ud, (Fl 0), (Fl y), (Fl x), (Bo (fcmp .gtr (ford .f32 (cf .f32 y) (cf .f32 x)))), (Fl y), Ud]) rfl rfl (does_move (u := (Fl y)) (ev rfl)) rfl ?_
    refine q_is (l' := [(Fl x), (Fl y), Ud, Ud, (Fl y), (Fl y), (Fl x), (Bo (fcmp .gtr (ford .f32 (cf .f32 y) (cf .f32 x)))), (Fl y), Ud]) rfl rfl (does_assign (u := (Fl y)) (ev rfl)) rfl ?_
    refine wpList_nil (hK5 _ _ ?_)
    refine wp_ret ?_
    dsimp only [Exit.then, Exit.inBlock]
    refine ret_val (v := (Fl y)) (res_T rfl (slot rfl)) (Ext.refl w) ?_
    have x6 : cf .f32 y = fmaxG (cf .f32 x) (cf .f32 y) := by first | with_reducible rfl | (simp only [fmaxG, c4]; done) | (simp [fmaxG, c4]; done) | (revert c4; simp +contextual [fmaxG]; done) | (rcases c4' with hh | hh <;> simp only [hh, fmaxG, c4]; done) | (rcases c4' with hh | hh <;> simp_all [fmaxG]; done) | (rcases c4' with hh | hh | hh <;> simp_all [fmaxG]; done) | (rcases c4' with hh | hh | hh | hh <;> simp_all [fmaxG]; done) | (simp_all [fmaxG]; done) | rfl
    exact ⟨y, rfl, x6⟩
  have c4' := c4
  refine wp_skip (hK2 _ _ ?_)
  refine wp_seq_k fun K7 hK7 => ?_
  refine wp_region_lit ?_
  refine q_is (l' := [(Fl x), (Fl y), Ud, Ud, (Fl 0), (Fl y), (Fl x), (Bo (fcmp .gtr (ford .f32 (cf .f32 y) (cf .f32 x)))), Ud, (Fl x)]) rfl rfl (does_move (u := (Fl x)) (ev rfl)) rfl ?_
  refine q_is (l' := [(Fl x), (Fl y), Ud, Ud, (Fl x), (Fl y), (Fl x), (Bo (fcmp .gtr (ford .f32 (cf .f32 y) (cf .f32 x)))), Ud, (Fl x)]) rfl rfl (does_assign (u := (Fl x)) (ev rfl)) rfl ?_
  refine wpList_nil (hK7 _ _ ?_)
  refine wp_ret ?_
  refine ret_val (v := (Fl x)) (res_T rfl (slot rfl)) (Ext.refl w) ?_
  have x8 : cf .f32 x = fmaxG (cf .f32 x) (cf .f32 y) := by first | with_reducible rfl | (simp only [fmaxG, c4]; done) | (simp [fmaxG, c4]; done) | (revert c4; simp +contextual [fmaxG]; done) | (rcases c4' with hh | hh <;> simp only [hh, fmaxG, c4]; done) | (rcases c4' with hh | hh <;> simp_all [fmaxG]; done) | (rcases c4' with hh | hh | hh <;> simp_all [fmaxG]; done) | (rcases c4' with hh | hh | hh | hh <;> simp_all [fmaxG]; done) | (simp_all [fmaxG]; done) | rfl
  exact ⟨x, rfl, x8⟩

/- impl.SizeRange -/
theorem c_impl_SizeRange (r : List Value) (A_r : Rg) (w : World) (hv_r : RRg w A_r r) : Gives Try.prog 62 #[(.agg r.toArray)] w (fun v w' => ∃ cs_1 : List Value, v = (.agg cs_1.toArray) ∧ RRg w (szRange A_r) cs_1) := by
  obtain ⟨r1, r3, rfl, h2, h4⟩ := hv_r
  refine enter [(.agg #[(Fl r1), (Fl r3)]), Ud, Ud, Ud, Ud, Ud, Ud, Ud, Ud, Ud, Ud, Ud, Ud, Ud, Ud, Ud, Ud, Ud, Ud, Ud, Ud, Ud, Ud, Ud, Ud, Ud] Try.func62 rfl Try.ntmps62 rfl ?_
  refine wp_seq_k fun K5 hK5 => ?_
  refine wp_region_lit ?_
  refine seqd rfl rfl (does_box (u := (.agg #[(Fl r1), (Fl r3)])) (ev rfl)) ?_; rintro _ w10 ⟨b6, rfl, hb7, hB8, E9⟩
  have g11 : w.heap.size ≤ b6 := Nat.le_trans (Below.size (Ext.refl w)) hb7
  change Blk _ _ [(Fl r1), (Fl r3)] at hB8
  have X12 := Ext.gr (Ext.refl w) E9
  show wpList _ _ _ _ (fr [(.agg #[(Fl r1), (Fl r3)]), (Pt b6 0), Ud, Ud, Ud, Ud, Ud, Ud, Ud, Ud, Ud, Ud, Ud, Ud, Ud, Ud, Ud, Ud, Ud, Ud, Ud, Ud, Ud, Ud, Ud, Ud]) _
  refine seqd rfl rfl (does_alloc z38) ?_; rintro _ w17 ⟨b13, rfl, hb14, hB15, E16⟩
  have n18 : b6 < b13 := Nat.lt_of_lt_of_le (Blk.lt hB8) hb14
  have g19 : w.heap.size ≤ b13 := Nat.le_trans (Below.size X12) hb14
  change Blk _ _ [(Fl 0), (Fl 0)] at hB15
  have X20 := Ext.gr X12 E16
  show wpList _ _ _ _ (fr [(.agg #[(Fl r1), (Fl r3)]), (Pt b6 0), (Pt b13 0), Ud, Ud, Ud, Ud, Ud, Ud, Ud, Ud, Ud, Ud, Ud, Ud, Ud, Ud, Ud, Ud, Ud, Ud, Ud, Ud, Ud, Ud, Ud]) _
  refine wpList_nil (hK5 _ _ ?_)
  refine wp_seq_k fun K21 hK21 => ?_
  refine wp_block ?_
  refine wp_seq_k fun K22 hK22 => ?_
  refine wp_region_lit ?_
  refine q_is (l' := [(.agg #[(Fl r1), (Fl r3)]), (Pt b6 0), (Pt b13 0), Ud, (Pt b6 0), Ud, Ud, Ud, Ud, Ud, Ud, Ud, Ud, Ud, Ud, Ud, Ud, Ud, Ud, Ud, Ud, Ud, Ud, Ud, Ud, Ud]) rfl rfl (does_fieldAddr (ev rfl) fa38_0) rfl ?_
  refine q_is (l' := [(.agg #[(Fl r1), (Fl r3)]), (Pt b6 0), (Pt b13 0), Ud, (Pt b6 0), (Fl r1), Ud, Ud, Ud, Ud, Ud, Ud, Ud, Ud, Ud, Ud, Ud, Ud, Ud, Ud, Ud, Ud, Ud, Ud, Ud, Ud]) rfl rfl (does_load (u := (Fl r1)) (ev rfl) Try.isAgg24 (Cells.at (Blk.cells (hB8.ext E16)) 0 rfl)) rfl ?_
  refine q_is (l' := [(.agg #[(Fl r1), (Fl r3)]), (Pt b6 0), (Pt b13 0), Ud, (Pt b6 0), (Fl r1), (Bo (fcmp .gtr (ford .f32 (cf .f32 r1) (cf .f32 0)))), Ud, Ud, Ud, Ud, Ud, Ud, Ud, Ud, Ud, Ud, Ud, Ud, Ud, Ud, Ud, Ud, Ud, Ud, Ud]) rfl rfl (does_fcmp (.inr (.inr (.inr (.inr (.inl rfl))))) (ev rfl) (ev rfl)) rfl ?_
  refine q_is (l' := [(.agg #[(Fl r1), (Fl r3)]), (Pt b6 0), (Pt b13 0), (Bo (fcmp .gtr (ford .f32 (cf .f32 r1) (cf .f32 0)))), (Pt b6 0), (Fl r1), (Bo (fcmp .gtr (ford .f32 (cf .f32 r1) (cf .f32 0)))), Ud, Ud, Ud, Ud, Ud, Ud, Ud, Ud, Ud, Ud, Ud, Ud, Ud, Ud, Ud, Ud, Ud, Ud, Ud]) rfl rfl (does_assign (u := (Bo (fcmp .gtr (ford .f32 (cf .f32 r1) (cf .f32 0))))) (ev rfl)) rfl ?_
  refine wpList_nil (hK22 _ _ ?_)
  refine wp_cond_split (t := fcmp .gtr (ford .f32 (cf .f32 r1) (cf .f32 0))) (ev rfl) (fun c23 => ?_) (fun c23 => ?_)
  · have c23' := c23
    refine wp_seq_k fun K24 hK24 => ?_
    refine wp_region_lit ?_
    refine q_is (l' := [(.agg #[(Fl r1), (Fl r3)]), (Pt b6 0), (Pt b13 0), (Bo (fcmp .gtr (ford .f32 (cf .f32 r1) (cf .f32 0)))), (Pt b6 0), (Fl r1), (Bo (fcmp .gtr (ford .f32 (cf .f32 r1) (cf .f32 0)))), (.agg #[(Fl r1), (Fl r3)]), Ud, Ud, Ud, Ud, Ud, Ud, Ud, Ud, Ud, Ud, Ud, Ud, Ud, Ud, Ud, Ud, Ud, Ud]) rfl rfl (does_loadAgg (cs := [(Fl r1), (Fl r3)]) (ev rfl) Try.isAgg38 Try.sizeOf38 (Blk.cells (hB8.ext E16)) rfl) rfl ?_
    refine seqn rfl rfl (does_store (n := 2) (cs := [(Fl 0), (Fl 0)]) (u := (.agg #[(Fl r1), (Fl r3)])) (ev rfl) (ev rfl) Try.sizeOf38 rfl hB15 (Nat.le_of_ble_eq_true rfl) rfl) ?_; rintro _ w27 ⟨rfl, W25, hB26⟩
    change Blk _ _ [(Fl r1), (Fl r3)] at hB26
    have X28 := Below.wr X20 W25 g19
    refine wpList_nil (hK24 _ _ ?_)
    refine wp_ret ?_
    dsimp only [Exit.then, Exit.inBlock]
    refine ret_val (v := (.agg #[(Fl r1), (Fl r3)])) (res_C rfl (slot rfl) (run_loadAgg (cs := [(Fl r1), (Fl r3)]) Try.isAgg38 Try.sizeOf38 (Blk.cells hB26) rfl)) X28 ?_
    try simp only [h2, h4] at c23
    have x29 : cf .f32 r1 = (szRange A_r).lo := by first | with_reducible rfl | (simp only [szRange, h2, h4, c23]; done) | (simp [szRange, h2, h4, c23]; done) | (revert c23; simp +contextual [szRange, h2, h4]; done) | (rcases c23' with hh | hh <;> simp only [hh, szRange, h2, h4, c23]; done) | (rcases c23' with hh | hh <;> simp_all [szRange]; done) | (rcases c23' with hh | hh | hh <;> simp_all [szRange]; done) | (rcases c23' with hh | hh | hh | hh <;> simp_all [szRange]; done) | (simp_all [szRange]; done) | rfl
    have x30 : cf .f32 r3 = (szRange A_r).hi := by first | with_reducible rfl | (simp only [szRange, h2, h4, c23]; done) | (simp [szRange, h2, h4, c23]; done) | (revert c23; simp +contextual [szRange, h2, h4]; done) | (rcases c23' with hh | hh <;> simp only [hh, szRange, h2, h4, c23]; done) | (rcases c23' with hh | hh <;> simp_all [szRange]; done) | (rcases c23' with hh | hh | hh <;> simp_all [szRange]; done) | (rcases c23' with hh | hh | hh | hh <;> simp_all [szRange]; done) | (simp_all [szRange]; done) | rfl
    exact ⟨[(Fl r1), (Fl r3)], rfl, ⟨r1, r3, rfl, x29, x30⟩⟩
  have c23' := c23
  refine wp_seq_k fun K31 hK31 => ?_
  refine wp_region_lit ?_
  refine q_is (l' := [(.agg #[(Fl r1), (Fl r3)]), (Pt b6 0), (Pt b13 0), (Bo (fcmp .gtr (ford .f32 (cf .f32 r1) (cf .f32 0)))), (Pt b6 0), (Fl r1), (Bo (fcmp .gtr (ford .f32 (cf .f32 r1) (cf .f32 0)))), Ud, Ud, (Pt b6 1), Ud, Ud, Ud, Ud, Ud, Ud, Ud, Ud, Ud, Ud, Ud, Ud, Ud, Ud, Ud, Ud]) rfl rfl (does_fieldAddr (ev rfl) fa38_1) rfl ?_
  refine q_is (l' := [(.agg #[(Fl r1), (Fl r3)]), (Pt b6 0), (Pt b13 0), (Bo (fcmp .gtr (ford .f32 (cf .f32 r1) (cf .f32 0)))), (Pt b6 0), (Fl r1), (Bo (fcmp .gtr (ford .f32 (cf .f32 r1) (cf .f32 0)))), Ud, Ud, (Pt b6 1), (Fl r3), Ud, Ud, Ud, Ud, Ud, Ud, Ud, Ud, Ud, Ud, Ud, Ud, Ud, Ud, Ud]) rfl rfl (does_load (u := (Fl r3)) (ev rfl) Try.isAgg24 (Cells.at (Blk.cells (hB8.ext E16)) 1 rfl)) rfl ?_
  refine q_is (l' := [(.agg #[(Fl r1), (Fl r3)]), (Pt b6 0), (Pt b13 0), (Bo (fcmp .gtr (ford .f32 (cf .f32 r1) (cf .f32 0)))), (Pt b6 0), (Fl r1), (Bo (fcmp .gtr (ford .f32 (cf .f32 r1) (cf .f32 0)))), Ud, Ud, (Pt b6 1), (Fl r3), (Bo (fcmp .lss (ford .f32 (cf .f32 r3) (cf .f32 0)))), Ud, Ud, Ud, Ud, Ud, Ud, Ud, Ud, Ud, Ud, Ud, Ud, Ud, Ud]) rfl rfl (does_fcmp (.inr (.inr (.inl rfl))) (ev rfl) (ev rfl)) rfl ?_
  refine q_is (l' := [(.agg #[(Fl r1), (Fl r3)]), (Pt b6 0), (Pt b13 0), (Bo (fcmp .gtr (ford .f32 (cf .f32 r1) (cf .f32 0)))), (Pt b6 0), (Fl r1), (Bo (fcmp .gtr (ford .f32 (cf .f32 r1) (cf .f32 0)))), Ud, (Bo (fcmp .lss (ford .f32 (cf .f32 r3) (cf .f32 0)))), (Pt b6 1), (Fl r3), (Bo (fcmp .lss (ford .f32 (cf .f32 r3) (cf .f32 0)))), Ud, Ud, Ud, Ud, Ud, Ud, Ud, Ud, Ud, Ud, Ud, Ud, Ud, Ud]) rfl rfl (does_assign (u := (Bo (fcmp .lss (ford .f32 (cf .f32 r3) (cf .f32 0))))) (ev rfl)) rfl ?_
  refine wpList_nil (hK31 _ _ ?_)
  refine wp_cond_split (t := fcmp .lss (ford .f32 (cf .f32 r3) (cf .f32 0))) (ev rfl) (fun c32 => ?_) (fun c32 => ?_)
  · have c32' := c32
    refine wp_seq_k fun K33 hK33 => ?_
    refine wp_region_lit ?_
    refine q_is (l' := [(.agg #[(Fl r1), (Fl r3)]), (Pt b6 0), (Pt b13 0), (Bo (fcmp .gtr (ford .f32 (cf .f32 r1) (cf .f32 0)))), (Pt b6 0), (Fl r1), (Bo (fcmp .gtr (ford .f32 (cf .f32 r1) (cf .f32 0)))), Ud, (Bo (fcmp .lss (ford .f32 (cf .f32 r3) (cf .f32 0)))), (Pt b6 1), (Fl r3), (Bo (fcmp .lss (ford .f32 (cf .f32 r3) (cf .f32 0)))), (Pt b6 1), Ud, Ud, Ud, Ud, Ud, Ud, Ud, Ud, Ud, Ud, Ud, Ud, Ud]) rfl rfl (does_fieldAddr (ev rfl) fa38_1) rfl ?_
    refine q_is (l' := [(.agg #[(Fl r1), (Fl r3)]), (Pt b6 0), (Pt b13 0), (Bo (fcmp .gtr (ford .f32 (cf .f32 r1) (cf .f32 0)))), (Pt b6 0), (Fl r1), (Bo (fcmp .gtr (ford .f32 (cf .f32 r1) (cf .f32 0)))), Ud, (Bo (fcmp .lss (ford .f32 (cf .f32 r3) (cf .f32 0)))), (Pt b6 1), (Fl r3), (Bo (fcmp .lss (ford .f32 (cf .f32 r3) (cf .f32 0)))), (Pt b6 1), (Fl r3), Ud, Ud, Ud, Ud, Ud, Ud, Ud, Ud, Ud, Ud, Ud, Ud]) rfl rfl (does_load (u := (Fl r3)) (ev rfl) Try.isAgg24 (Cells.at (Blk.cells (hB8.ext E16)) 1 rfl)) rfl ?_
    refine seqd rfl rfl (does_fneg' (ev rfl)) ?_; rintro _ _ ⟨r34, rfl, h35, rfl⟩
    show wpList _ _ _ _ (fr [(.agg #[(Fl r1), (Fl r3)]), (Pt b6 0), (Pt b13 0), (Bo (fcmp .gtr (ford .f32 (cf .f32 r1) (cf .f32 0)))), (Pt b6 0), (Fl r1), (Bo (fcmp .gtr (ford .f32 (cf .f32 r1) (cf .f32 0)))), Ud, (Bo (fcmp .lss (ford .f32 (cf .f32 r3) (cf .f32 0)))), (Pt b6 1), (Fl r3), (Bo (fcmp .lss (ford .f32 (cf .f32 r3) (cf .f32 0)))), (Pt b6 1), (Fl r3), (Fl r34), Ud, Ud, Ud, Ud, Ud, Ud, Ud, Ud, Ud, Ud, Ud]) _
    refine q_is (l' := [(.agg #[(Fl r1), (Fl r3)]), (Pt b6 0), (Pt b13 0), (Bo (fcmp .gtr (ford .f32 (cf .f32 r1) (cf .f32 0)))), (Pt b6 0), (Fl r1), (Bo (fcmp .gtr (ford .f32 (cf .f32 r1) (cf .f32 0)))), Ud, (Bo (fcmp .lss (ford .f32 (cf .f32 r3) (cf .f32 0)))), (Pt b6 1), (Fl r3), (Bo (fcmp .lss (ford .f32 (cf .f32 r3) (cf .f32 0)))), (Pt b6 1), (Fl r3), (Fl r34), (Pt b6 0), Ud, Ud, Ud, Ud, Ud, Ud, Ud, Ud, Ud, Ud]) rfl rfl (does_fieldAddr (ev rfl) fa38_0) rfl ?_
    refine q_is (l' := [(.agg #[(Fl r1), (Fl r3)]), (Pt b6 0), (Pt b13 0), (Bo (fcmp .gtr (ford .f32 (cf .f32 r1) (cf .f32 0)))), (Pt b6 0), (Fl r1), (Bo (fcmp .gtr (ford .f32 (cf .f32 r1) (cf .f32 0)))), Ud, (Bo (fcmp .lss (ford .f32 (cf .f32 r3) (cf .f32 0)))), (Pt b6 1), (Fl r3), (Bo (fcmp .lss (ford .f32 (cf .f32 r3) (cf .f32 0)))), (Pt b6 1), (Fl r3), (Fl r34), (Pt b6 0), (Fl r1), Ud, Ud, Ud, Ud, Ud, Ud, Ud, Ud, Ud]) rfl rfl (does_load (u := (Fl r1)) (ev rfl) Try.isAgg24 (Cells.at (Blk.cells (hB8.ext E16)) 0 rfl)) rfl ?_
    refine seqd rfl rfl (does_fneg' (ev rfl)) ?_; rintro _ _ ⟨r36, rfl, h37, rfl⟩
    show wpList _ _ _ _ (fr [(.agg #[(Fl r1), (Fl r3)]), (Pt b6 0), (Pt b13 0), (Bo (fcmp .gtr (ford .f32 (cf .f32 r1) (cf .f32 0)))), (Pt b6 0), (Fl r1), (Bo (fcmp .gtr (ford .f32 (cf .f32 r1) (cf .f32 0)))), Ud, (Bo (fcmp .lss (ford .f32 (cf .f32 r3) (cf .f32 0)))), (Pt b6 1), (Fl r3), (Bo (fcmp .lss (ford .f32 (cf .f32 r3) (cf .f32 0)))), (Pt b6 1), (Fl r3), (Fl r34), (Pt b6 0), (Fl r1), (Fl r36), Ud, Ud, Ud, Ud, Ud, Ud, Ud, Ud]) _
    refine q_is (l' := [(.agg #[(Fl r1), (Fl r3)]), (Pt b6 0), (Pt b13 0), (Bo (fcmp .gtr (ford .f32 (cf .f32 r1) (cf .f32 0)))), (Pt b6 0), (Fl r1), (Bo (fcmp .gtr (ford .f32 (cf .f32 r1) (cf .f32 0)))), Ud, (Bo (fcmp .lss (ford .f32 (cf .f32 r3) (cf .f32 0)))), (Pt b6 1), (Fl r3), (Bo (fcmp .lss (ford .f32 (cf .f32 r3) (cf .f32 0)))), (Pt b6 1), (Fl r3), (Fl r34), (Pt b6 0), (Fl r1), (Fl r36), (.agg #[(Fl r34), (Fl r36)]), Ud, Ud, Ud, Ud, Ud, Ud, Ud]) rfl rfl (does_build (parts' := [(0, (Fl r34)), (1, (Fl r36))]) (cells := #[(Fl r34), (Fl r36)]) (evp rfl) (by kernel_rfl)) rfl ?_
    refine seqn rfl rfl (does_store (n := 2) (cs := [(Fl 0), (Fl 0)]) (u := (.agg #[(Fl r34), (Fl r36)])) (ev rfl) (ev rfl) Try.sizeOf38 rfl hB15 (Nat.le_of_ble_eq_true rfl) rfl) ?_; rintro _ w40 ⟨rfl, W38, hB39⟩
    change Blk _ _ [(Fl r34), (Fl r36)] at hB39
    have X41 := Below.wr X20 W38 g19
    refine wpList_nil (hK33 _ _ ?_)
    refine wp_ret ?_
    dsimp only [Exit.then, Exit.inBlock]
    refine ret_val (v := (.agg #[(Fl r34), (Fl r36)])) (res_C rfl (slot rfl) (run_loadAgg (cs := [(Fl r34), (Fl r36)]) Try.isAgg38 Try.sizeOf38 (Blk.cells hB39) rfl)) X41 ?_
    try simp only [h2, h4, h35, h37] at c23 c32
    have x42 : cf .f32 r34 = (szRange A_r).lo := by first | with_reducible rfl | (simp only [szRange, h2, h4, h35, h37, c23, c32]; done) | (simp [szRange, h2, h4, h35, h37, c23, c32]; done) | (revert c23 c32; simp +contextual [szRange, h2, h4, h35, h37]; done) | (rcases c23' with hh | hh <;> simp only [hh, szRange, h2, h4, h35, h37, c23, c32]; done) | (rcases c32' with hh | hh <;> simp only [hh, szRange, h2, h4, h35, h37, c23, c32]; done) | (rcases c32' with hh | hh <;> simp_all [szRange]; done) | (rcases c32' with hh | hh | hh <;> simp_all [szRange]; done) | (rcases c32' with hh | hh | hh | hh <;> simp_all [szRange]; done) | (simp_all [szRange]; done) | rfl
    have x43 : cf .f32 r36 = (szRange A_r).hi := by first | with_reducible rfl | (simp only [szRange, h2, h4, h35, h37, c23, c32]; done) | (simp [szRange, h2, h4, h35, h37, c23, c32]; done) | (revert c23 c32; simp +contextual [szRange, h2, h4, h35, h37]; done) | (rcases c23' with hh | hh <;> simp only [hh, szRange, h2, h4, h35, h37, c23, c32]; done) | (rcases c32' with hh | hh <;> simp only [hh, szRange, h2, h4, h35, h37, c23, c32]; done) | (rcases c32' with hh | hh <;> simp_all [szRange]; done) | (rcases c32' with hh | hh | hh <;> simp_all [szRange]; done) | (rcases c32' with hh | hh | hh | hh <;> simp_all [szRange]; done) | (simp_all [szRange]; done) | rfl
    exact ⟨[(Fl r34), (Fl r36)], rfl, ⟨r34, r36, rfl, x42, x43⟩⟩
  have c32' := c32
  refine wp_skip (hK21 _ _ ?_)
  refine wp_seq_k fun K44 hK44 => ?_
  refine wp_region_lit ?_
  refine q_is (l' := [(.agg #[(Fl r1), (Fl r3)]), (Pt b6 0), (Pt b13 0), (Bo (fcmp .gtr (ford .f32 (cf .f32 r1) (cf .f32 0)))), (Pt b6 0), (Fl r1), (Bo (fcmp .gtr (ford .f32 (cf .f32 r1) (cf .f32 0)))), Ud, (Bo (fcmp .lss (ford .f32 (cf .f32 r3) (cf .f32 0)))), (Pt b6 1), (Fl r3), (Bo (fcmp .lss (ford .f32 (cf .f32 r3) (cf .f32 0)))), Ud, Ud, Ud, Ud, Ud, Ud, Ud, (Pt b6 0), Ud, Ud, Ud, Ud, Ud, Ud]) rfl rfl (does_fieldAddr (ev rfl) fa38_0) rfl ?_
  refine q_is (l' := [(.agg #[(Fl r1), (Fl r3)]), (Pt b6 0), (Pt b13 0), (Bo (fcmp .gtr (ford .f32 (cf .f32 r1) (cf .f32 0)))), (Pt b6 0), (Fl r1), (Bo (fcmp .gtr (ford .f32 (cf .f32 r1) (cf .f32 0)))), Ud, (Bo (fcmp .lss (ford .f32 (cf .f32 r3) (cf .f32 0)))), (Pt b6 1), (Fl r3), (Bo (fcmp .lss (ford .f32 (cf .f32 r3) (cf .f32 0)))), Ud, Ud, Ud, Ud, Ud, Ud, Ud, (Pt b6 0), (Fl r1), Ud, Ud, Ud, Ud, Ud]) rfl rfl (does_load (u := (Fl r1)) (ev rfl) Try.isAgg24 (Cells.at (Blk.cells (hB8.ext E16)) 0 rfl)) rfl ?_
  refine seqd rfl rfl (does_fneg' (ev rfl)) ?_; rintro _ _ ⟨r45, rfl, h46, rfl⟩
  show wpList _ _ _ _ (fr [(.agg #[(Fl r1), (Fl r3)]), (Pt b6 0), (Pt b13 0), (Bo (fcmp .gtr (ford .f32 (cf .f32 r1) (cf .f32 0)))), (Pt b6 0), (Fl r1), (Bo (fcmp .gtr (ford .f32 (cf .f32 r1) (cf .f32 0)))), Ud, (Bo (fcmp .lss (ford .f32 (cf .f32 r3) (cf .f32 0)))), (Pt b6 1), (Fl r3), (Bo (fcmp .lss (ford .f32 (cf .f32 r3) (cf .f32 0)))), Ud, Ud, Ud, Ud, Ud, Ud, Ud, (Pt b6 0), (Fl r1), (Fl r45), Ud, Ud, Ud, Ud]) _
  refine q_is (l' := [(.agg #[(Fl r1), (Fl r3)]), (Pt b6 0), (Pt b13 0), (Bo (fcmp .gtr (ford .f32 (cf .f32 r1) (cf .f32 0)))), (Pt b6 0), (Fl r1), (Bo (fcmp .gtr (ford .f32 (cf .f32 r1) (cf .f32 0)))), Ud, (Bo (fcmp .lss (ford .f32 (cf .f32 r3) (cf .f32 0)))), (Pt b6 1), (Fl r3), (Bo (fcmp .lss (ford .f32 (cf .f32 r3) (cf .f32 0)))), Ud, Ud, Ud, Ud, Ud, Ud, Ud, (Pt b6 0), (Fl r1), (Fl r45), (Pt b6 1), Ud, Ud, Ud]) rfl rfl (does_fieldAddr (ev rfl) fa38_1) rfl ?_
  refine q_is (l' := [(.agg #[(Fl r1), (Fl r3)]), (Pt b6 0), (Pt b13 0), (Bo (fcmp .gtr (ford .f32 (cf .f32 r1) (cf .f32 0)))), (Pt b6 0), (Fl r1), (Bo (fcmp .gtr (ford .f32 (cf .f32 r1) (cf .f32 0)))), Ud, (Bo (fcmp .lss (ford .f32 (cf .f32 r3) (cf .f32 0)))), (Pt b6 1), (Fl r3), (Bo (fcmp .lss (ford .f32 (cf .f32 r3) (cf .f32 0)))), Ud, Ud, Ud, Ud, Ud, Ud, Ud, (Pt b6 0), (Fl r1), (Fl r45), (Pt b6 1), (Fl r3), Ud, Ud]) rfl rfl (does_load (u := (Fl r3)) (ev rfl) Try.isAgg24 (Cells.at (Blk.cells (hB8.ext E16)) 1 rfl)) rfl ?_
  refine seqd rfl rfl (does_call (args := #[(Fl r45), (Fl r3)]) cal60 (evs rfl) (c_impl_greater r45 r3 _)) ?_; rintro _ w48 ⟨E47, ⟨r49, rfl, h50⟩⟩
  have X51 := Ext.gr X20 E47
  show wpList _ _ _ _ (fr [(.agg #[(Fl r1), (Fl r3)]), (Pt b6 0), (Pt b13 0), (Bo (fcmp .gtr (ford .f32 (cf .f32 r1) (cf .f32 0)))), (Pt b6 0), (Fl r1), (Bo (fcmp .gtr (ford .f32 (cf .f32 r1) (cf .f32 0)))), Ud, (Bo (fcmp .lss (ford .f32 (cf .f32 r3) (cf .f32 0)))), (Pt b6 1), (Fl r3), (Bo (fcmp .lss (ford .f32 (cf .f32 r3) (cf .f32 0)))), Ud, Ud, Ud, Ud, Ud, Ud, Ud, (Pt b6 0), (Fl r1), (Fl r45), (Pt b6 1), (Fl r3), (Fl r49), Ud]) _
  refine q_is (l' := [(.agg #[(Fl r1), (Fl r3)]), (Pt b6 0), (Pt b13 0), (Bo (fcmp .gtr (ford .f32 (cf .f32 r1) (cf .f32 0)))), (Pt b6 0), (Fl r1), (Bo (fcmp .gtr (ford .f32 (cf .f32 r1) (cf .f32 0)))), Ud, (Bo (fcmp .lss (ford .f32 (cf .f32 r3) (cf .f32 0)))), (Pt b6 1), (Fl r3), (Bo (fcmp .lss (ford .f32 (cf .f32 r3) (cf .f32 0)))), Ud, Ud, Ud, Ud, Ud, Ud, Ud, (Pt b6 0), (Fl r1), (Fl r45), (Pt b6 1), (Fl r3), (Fl r49), (.agg #[(Fl 0), (Fl r49)])]) rfl rfl (does_build (parts' := [(0, (Fl 0)), (1, (Fl r49))]) (cells := #[(Fl 0), (Fl r49)]) (evp rfl) (by kernel_rfl)) rfl ?_
  refine seqn rfl rfl (does_store (n := 2) (cs := [(Fl 0), (Fl 0)]) (u := (.agg #[(Fl 0), (Fl r49)])) (ev rfl) (ev rfl) Try.sizeOf38 rfl (hB15.ext E47) (Nat.le_of_ble_eq_true rfl) rfl) ?_; rintro _ w54 ⟨rfl, W52, hB53⟩
  change Blk _ _ [(Fl 0), (Fl r49)] at hB53
  have X55 := Below.wr X51 W52 g19
  refine wpList_nil (hK44 _ _ ?_)
  refine wp_ret ?_
  refine ret_val (v := (.agg #[(Fl 0), (Fl r49)])) (res_C rfl (slot rfl) (run_loadAgg (cs := [(Fl 0), (Fl r49)]) Try.isAgg38 Try.sizeOf38 (Blk.cells hB53) rfl)) X55 ?_
  try simp only [h2, h4, h46, h50] at c23 c32
  have x56 : cf .f32 0 = (szRange A_r).lo := by first | with_reducible rfl | (simp only [szRange, h2, h4, h46, h50, c23, c32]; done) | (simp [szRange, h2, h4, h46, h50, c23, c32]; done) | (revert c23 c32; simp +contextual [szRange, h2, h4, h46, h50]; done) | (rcases c23' with hh | hh <;> simp only [hh, szRange, h2, h4, h46, h50, c23, c32]; done) | (rcases c32' with hh | hh <;> simp only [hh, szRange, h2, h4, h46, h50, c23, c32]; done) | (rcases c32' with hh | hh <;> simp_all [szRange]; done) | (rcases c32' with hh | hh | hh <;> simp_all [szRange]; done) | (rcases c32' with hh | hh | hh | hh <;> simp_all [szRange]; done) | (simp_all [szRange]; done) | rfl
  have x57 : cf .f32 r49 = (szRange A_r).hi := by first | with_reducible rfl | (simp only [szRange, h2, h4, h46, h50, c23, c32]; done) | (simp [szRange, h2, h4, h46, h50, c23, c32]; done) | (revert c23 c32; simp +contextual [szRange, h2, h4, h46, h50]; done) | (rcases c23' with hh | hh <;> simp only [hh, szRange, h2, h4, h46, h50, c23, c32]; done) | (rcases c32' with hh | hh <;> simp only [hh, szRange, h2, h4, h46, h50, c23, c32]; done) | (rcases c32' with hh | hh <;> simp_all [szRange]; done) | (rcases c32' with hh | hh | hh <;> simp_all [szRange]; done) | (rcases c32' with hh | hh | hh | hh <;> simp_all [szRange]; done) | (simp_all [szRange]; done) | rfl
  exact ⟨[(Fl 0), (Fl r49)], rfl, ⟨0, r49, rfl, x56, x57⟩⟩

/- impl.RootNumber -/
theorem c_impl_RootNumber (x : Nat) (w : World) : Gives Try.prog 99 #[(Fl x)] w (fun v w' => ∃ r_1 : Nat, v = (Fl r_1) ∧ cf .f32 r_1 = rootF (cf .f32 x)) := by
  refine enter [(Fl x), Ud, Ud, Ud, Ud, Ud, Ud] Try.func99 rfl Try.ntmps99 rfl ?_
  refine wp_seq_k fun K1 hK1 => ?_
  refine wp_region_lit ?_
  refine q_is (l' := [(Fl x), Ud, (Fl 0), Ud, Ud, Ud, Ud]) rfl rfl (does_assign (u := (Fl 0)) (ev rfl)) rfl ?_
  refine wpList_nil (hK1 _ _ ?_)
  refine wp_seq_k fun K2 hK2 => ?_
  refine wp_region_lit ?_
  refine q_is (l' := [(Fl x), Ud, (Fl 0), (Fl x), Ud, Ud, Ud]) rfl rfl (does_move (u := (Fl x)) (ev rfl)) rfl ?_
  refine seqd rfl rfl (does_widen Try.underlying24 Try.underlying80 (ev rfl)) ?_; rintro _ w6 ⟨r3, rfl, h4, E5⟩
  have X7 := Ext.gr (Ext.refl w) E5
  show wpList _ _ _ _ (fr [(Fl x), Ud, (Fl 0), (Fl x), (Fd r3), Ud, Ud]) _
  refine seqd rfl rfl (does_call (args := #[(Fd r3)]) cal113 (evs rfl) (c_math_Sqrt r3 _)) ?_; rintro _ w9 ⟨E8, ⟨r10, rfl, h11⟩⟩
  have X12 := Ext.gr X7 E8
  show wpList _ _ _ _ (fr [(Fl x), Ud, (Fl 0), (Fl x), (Fd r3), (Fd r10), Ud]) _
  refine seqd rfl rfl (does_narrow Try.underlying80 Try.underlying24 (ev rfl) (by first | assumption | (simp only [h4, h11]; exact nov_sqrt _))) ?_; rintro _ w16 ⟨r13, rfl, h14, E15⟩
  have X17 := Ext.gr X12 E15
  show wpList _ _ _ _ (fr [(Fl x), Ud, (Fl 0), (Fl x), (Fd r3), (Fd r10), (Fl r13)]) _
  refine q_is (l' := [(Fl x), Ud, (Fl r13), (Fl x), (Fd r3), (Fd r10), (Fl r13)]) rfl rfl (does_assign (u := (Fl r13)) (ev rfl)) rfl ?_
  refine wpList_nil (hK2 _ _ ?_)
  refine wp_ret ?_
  refine ret_val (v := (Fl r13)) (res_T rfl (slot rfl)) X17 ?_
  have x18 : cf .f32 r13 = rootF (cf .f32 x) := by first | with_reducible rfl | (simp only [rootF, h4, h11, h14]; done) | (simp [rootF, h4, h11, h14]; done) | rfl
  exact ⟨r13, rfl, x18⟩

/- impl.InnerOf -/
theorem c_impl_InnerOf (a : List Value) (A_a : V3) (b : List Value) (A_b : V3) (w : World) (hv_a : RV3 w A_a a) (hv_b : RV3 w A_b b) : Gives Try.prog 100 #[(.agg a.toArray), (.agg b.toArray)] w (fun v w' => ∃ r_1 : Nat, v = (Fl r_1) ∧ cf .f32 r_1 = innerF A_a A_b) := by
  obtain ⟨r1, r3, r5, rfl, h2, h4, h6⟩ := hv_a
  obtain ⟨r7, r9, r11, rfl, h8, h10, h12⟩ := hv_b
  refine enter [(.agg #[(Fl r1), (Fl r3), (Fl r5)]), (.agg #[(Fl r7), (Fl r9), (Fl r11)]), Ud, Ud, Ud, Ud, Ud, Ud, Ud, Ud, Ud, Ud, Ud, Ud, Ud, Ud, Ud, Ud, Ud, Ud, Ud, Ud] Try.func100 rfl Try.ntmps100 rfl ?_
  refine wp_seq_k fun K13 hK13 => ?_
  refine wp_region_lit ?_
  refine seqd rfl rfl (does_box (u := (.agg #[(Fl r1), (Fl r3), (Fl r5)])) (ev rfl)) ?_; rintro _ w18 ⟨b14, rfl, hb15, hB16, E17⟩
  have g19 : w.heap.size ≤ b14 := Nat.le_trans (Below.size (Ext.refl w)) hb15
  change Blk _ _ [(Fl r1), (Fl r3), (Fl r5)] at hB16
  have X20 := Ext.gr (Ext.refl w) E17
  show wpList _ _ _ _ (fr [(.agg #[(Fl r1), (Fl r3), (Fl r5)]), (.agg #[(Fl r7), (Fl r9), (Fl r11)]), (Pt b14 0), Ud, Ud, Ud, Ud, Ud, Ud, Ud, Ud, Ud, Ud, Ud, Ud, Ud, Ud, Ud, Ud, Ud, Ud, Ud]) _
  refine seqd rfl rfl (does_box (u := (.agg #[(Fl r7), (Fl r9), (Fl r11)])) (ev rfl)) ?_; rintro _ w25 ⟨b21, rfl, hb22, hB23, E24⟩
  have n26 : b14 < b21 := Nat.lt_of_lt_of_le (Blk.lt hB16) hb22
  have g27 : w.heap.size ≤ b21 := Nat.le_trans (Below.size X20) hb22
  change Blk _ _ [(Fl r7), (Fl r9), (Fl r11)] at hB23
  have X28 := Ext.gr X20 E24
  show wpList _ _ _ _ (fr [(.agg #[(Fl r1), (Fl r3), (Fl r5)]), (.agg #[(Fl r7), (Fl r9), (Fl r11)]), (Pt b14 0), (Pt b21 0), Ud, Ud, Ud, Ud, Ud, Ud, Ud, Ud, Ud, Ud, Ud, Ud, Ud, Ud, Ud, Ud, Ud, Ud]) _
  refine q_is (l' := [(.agg #[(Fl r1), (Fl r3), (Fl r5)]), (.agg #[(Fl r7), (Fl r9), (Fl r11)]), (Pt b14 0), (Pt b21 0), (Fl 0), Ud, Ud, Ud, Ud, Ud, Ud, Ud, Ud, Ud, Ud, Ud, Ud, Ud, Ud, Ud, Ud, Ud]) rfl rfl (does_assign (u := (Fl 0)) (ev rfl)) rfl ?_
  refine wpList_nil (hK13 _ _ ?_)
  refine wp_seq_k fun K29 hK29 => ?_
  refine wp_region_lit ?_
  refine q_is (l' := [(.agg #[(Fl r1), (Fl r3), (Fl r5)]), (.agg #[(Fl r7), (Fl r9), (Fl r11)]), (Pt b14 0), (Pt b21 0), (Fl 0), (Pt b14 0), Ud, Ud, Ud, Ud, Ud, Ud, Ud, Ud, Ud, Ud, Ud, Ud, Ud, Ud, Ud, Ud]) rfl rfl (does_fieldAddr (ev rfl) fa26_0) rfl ?_
  refine q_is (l' := [(.agg #[(Fl r1), (Fl r3), (Fl r5)]), (.agg #[(Fl r7), (Fl r9), (Fl r11)]), (Pt b14 0), (Pt b21 0), (Fl 0), (Pt b14 0), (Fl r1), Ud, Ud, Ud, Ud, Ud, Ud, Ud, Ud, Ud, Ud, Ud, Ud, Ud, Ud, Ud]) rfl rfl (does_load (u := (Fl r1)) (ev rfl) Try.isAgg24 (Cells.at (Blk.cells (hB16.ext E24)) 0 rfl)) rfl ?_
  refine q_is (l' := [(.agg #[(Fl r1), (Fl r3), (Fl r5)]), (.agg #[(Fl r7), (Fl r9), (Fl r11)]), (Pt b14 0), (Pt b21 0), (Fl 0), (Pt b14 0), (Fl r1), (Pt b21 0), Ud, Ud, Ud, Ud, Ud, Ud, Ud, Ud, Ud, Ud, Ud, Ud, Ud, Ud]) rfl rfl (does_fieldAddr (ev rfl) fa26_0) rfl ?_
  refine q_is (l' := [(.agg #[(Fl r1), (Fl r3), (Fl r5)]), (.agg #[(Fl r7), (Fl r9), (Fl r11)]), (Pt b14 0), (Pt b21 0), (Fl 0), (Pt b14 0), (Fl r1), (Pt b21 0), (Fl r7), Ud, Ud, Ud, Ud, Ud, Ud, Ud, Ud, Ud, Ud, Ud, Ud, Ud]) rfl rfl (does_load (u := (Fl r7)) (ev rfl) Try.isAgg24 (Cells.at (Blk.cells hB23) 0 rfl)) rfl ?_
  refine seqd rfl rfl (does_float (.inr (.inr (.inl rfl))) (ev rfl) (ev rfl)) ?_; rintro _ w33 ⟨r30, rfl, h31, E32⟩
  have X34 := Ext.gr X28 E32
  show wpList _ _ _ _ (fr [(.agg #[(Fl r1), (Fl r3), (Fl r5)]), (.agg #[(Fl r7), (Fl r9), (Fl r11)]), (Pt b14 0), (Pt b21 0), (Fl 0), (Pt b14 0), (Fl r1), (Pt b21 0), (Fl r7), (Fl r30), Ud, Ud, Ud, Ud, Ud, Ud, Ud, Ud, Ud, Ud, Ud, Ud]) _
  refine q_is (l' := [(.agg #[(Fl r1), (Fl r3), (Fl r5)]), (.agg #[(Fl r7), (Fl r9), (Fl r11)]), (Pt b14 0), (Pt b21 0), (Fl 0), (Pt b14 0), (Fl r1), (Pt b21 0), (Fl r7), (Fl r30), (Pt b14 1), Ud, Ud, Ud, Ud, Ud, Ud, Ud, Ud, Ud, Ud, Ud]) rfl rfl (does_fieldAddr (ev rfl) fa26_1) rfl ?_
  refine q_is (l' := [(.agg #[(Fl r1), (Fl r3), (Fl r5)]), (.agg #[(Fl r7), (Fl r9), (Fl r11)]), (Pt b14 0), (Pt b21 0), (Fl 0), (Pt b14 0), (Fl r1), (Pt b21 0), (Fl r7), (Fl r30), (Pt b14 1), (Fl r3), Ud, Ud, Ud, Ud, Ud, Ud, Ud, Ud, Ud, Ud]) rfl rfl (does_load (u := (Fl r3)) (ev rfl) Try.isAgg24 (Cells.at (Blk.cells ((hB16.ext E24).ext E32)) 1 rfl)) rfl ?_
  refine q_is (l' := [(.agg #[(Fl r1), (Fl r3), (Fl r5)]), (.agg #[(Fl r7), (Fl r9), (Fl r11)]), (Pt b14 0), (Pt b21 0), (Fl 0), (Pt b14 0), (Fl r1), (Pt b21 0), (Fl r7), (Fl r30), (Pt b14 1), (Fl r3), (Pt b21 1), Ud, Ud, Ud, Ud, Ud, Ud, Ud, Ud, Ud]) rfl rfl (does_fieldAddr (ev rfl) fa26_1) rfl ?_
  refine q_is (l' := [(.agg #[(Fl r1), (Fl r3), (Fl r5)]), (.agg #[(Fl r7), (Fl r9), (Fl r11)]), (Pt b14 0), (Pt b21 0), (Fl 0), (Pt b14 0), (Fl r1), (Pt b21 0), (Fl r7), (Fl r30), (Pt b14 1), (Fl r3), (Pt b21 1), (Fl r9), Ud, Ud, Ud, Ud, Ud, Ud, Ud, Ud]) rfl rfl (does_load (u := (Fl r9)) (ev rfl) Try.isAgg24 (Cells.at (Blk.cells (hB23.ext E32)) 1 rfl)) rfl ?_
  refine seqd rfl rfl (does_float (.inr (.inr (.inl rfl))) (ev rfl) (ev rfl)) ?_; rintro _ w38 ⟨r35, rfl, h36, E37⟩
  have X39 := Ext.gr X34 E37
  show wpList _ _ _ _ (fr [(.agg #[(Fl r1), (Fl r3), (Fl r5)]), (.agg #[(Fl r7), (Fl r9), (Fl r11)]), (Pt b14 0), (Pt b21 0), (Fl 0), (Pt b14 0), (Fl r1), (Pt b21 0), (Fl r7), (Fl r30), (Pt b14 1), (Fl r3), (Pt b21 1), (Fl r9), (Fl r35), Ud, Ud, Ud, Ud, Ud, Ud, Ud]) _
  refine seqd rfl rfl (does_float (.inl rfl) (ev rfl) (ev rfl)) ?_; rintro _ w43 ⟨r40, rfl, h41, E42⟩
  have X44 := Ext.gr X39 E42
  show wpList _ _ _ _ (fr [(.agg #[(Fl r1), (Fl r3), (Fl r5)]), (.agg #[(Fl r7), (Fl r9), (Fl r11)]), (Pt b14 0), (Pt b21 0), (Fl 0), (Pt b14 0), (Fl r1), (Pt b21 0), (Fl r7), (Fl r30), (Pt b14 1), (Fl r3), (Pt b21 1), (Fl r9), (Fl r35), (Fl r40), Ud, Ud, Ud, Ud, Ud, Ud]) _
  refine q_is (l' := [(.agg #[(Fl r1), (Fl r3), (Fl r5)]), (.agg #[(Fl r7), (Fl r9), (Fl r11)]), (Pt b14 0), (Pt b21 0), (Fl 0), (Pt b14 0), (Fl r1), (Pt b21 0), (Fl r7), (Fl r30), (Pt b14 1), (Fl r3), (Pt b21 1), (Fl r9), (Fl r35), (Fl r40), (Pt b14 2), Ud, Ud, Ud, Ud, Ud]) rfl rfl (does_fieldAddr (ev rfl) fa26_2) rfl ?_
  refine q_is (l' := [(.agg #[(Fl r1), (Fl r3), (Fl r5)]), (.agg #[(Fl r7), (Fl r9), (Fl r11)]), (Pt b14 0), (Pt b21 0), (Fl 0), (Pt b14 0), (Fl r1), (Pt b21 0), (Fl r7), (Fl r30), (Pt b14 1), (Fl r3), (Pt b21 1), (Fl r9), (Fl r35), (Fl r40), (Pt b14 2), (Fl r5), Ud, Ud, Ud, Ud]) rfl rfl (does_load (u := (Fl r5)) (ev rfl) Try.isAgg24 (Cells.at (Blk.cells ((((hB16.ext E24).ext E32).ext E37).ext E42)) 2 rfl)) rfl ?_
  refine q_is (l' := [(.agg #[(Fl r1), (Fl r3), (Fl r5)]), (.agg #[(Fl r7), (Fl r9), (Fl r11)]), (Pt b14 0), (Pt b21 0), (Fl 0), (Pt b14 0), (Fl r1), (Pt b21 0), (Fl r7), (Fl r30), (Pt b14 1), (Fl r3), (Pt b21 1), (Fl r9), (Fl r35), (Fl r40), (Pt b14 2), (Fl r5), (Pt b21 2), Ud, Ud, Ud]) rfl rfl (does_fieldAddr (ev rfl) fa26_2) rfl ?_
  refine q_is (l' := [(.agg #[(Fl r1), (Fl r3), (Fl r5)]), (.agg #[(Fl r7), (Fl r9), (Fl r11)]), (Pt b14 0), (Pt b21 0), (Fl 0), (Pt b14 0), (Fl r1), (Pt b21 0), (Fl r7), (Fl r30), (Pt b14 1), (Fl r3), (Pt b21 1), (Fl r9), (Fl r35), (Fl r40), (Pt b14 2), (Fl r5), (Pt b21 2), (Fl r11), Ud, Ud]) rfl rfl (does_load (u := (Fl r11)) (ev rfl) Try.isAgg24 (Cells.at (Blk.cells (((hB23.ext E32).ext E37).ext E42)) 2 rfl)) rfl ?_
  refine seqd rfl rfl (does_float (.inr (.inr (.inl rfl))) (ev rfl) (ev rfl)) ?_; rintro _ w48 ⟨r45, rfl, h46, E47⟩
  have X49 := Ext.gr X44 E47
  show wpList _ _ _ _ (fr [(.agg #[(Fl r1), (Fl r3), (Fl r5)]), (.agg #[(Fl r7), (Fl r9), (Fl r11)]), (Pt b14 0), (Pt b21 0), (Fl 0), (Pt b14 0), (Fl r1), (Pt b21 0), (Fl r7), (Fl r30), (Pt b14 1), (Fl r3), (Pt b21 1), (Fl r9), (Fl r35), (Fl r40), (Pt b14 2), (Fl r5), (Pt b21 2), (Fl r11), (Fl r45), Ud]) _
  refine seqd rfl rfl (does_float (.inl rfl) (ev rfl) (ev rfl)) ?_; rintro _ w53 ⟨r50, rfl, h51, E52⟩
  have X54 := Ext.gr X49 E52
  show wpList _ _ _ _ (fr [(.agg #[(Fl r1), (Fl r3), (Fl r5)]), (.agg #[(Fl r7), (Fl r9), (Fl r11)]), (Pt b14 0), (Pt b21 0), (Fl 0), (Pt b14 0), (Fl r1), (Pt b21 0), (Fl r7), (Fl r30), (Pt b14 1), (Fl r3), (Pt b21 1), (Fl r9), (Fl r35), (Fl r40), (Pt b14 2), (Fl r5), (Pt b21 2), (Fl r11), (Fl r45), (Fl r50)]) _
  refine q_is (l' := [(.agg #[(Fl r1), (Fl r3), (Fl r5)]), (.agg #[(Fl r7), (Fl r9), (Fl r11)]), (Pt b14 0), (Pt b21 0), (Fl r50), (Pt b14 0), (Fl r1), (Pt b21 0), (Fl r7), (Fl r30), (Pt b14 1), (Fl r3), (Pt b21 1), (Fl r9), (Fl r35), (Fl r40), (Pt b14 2), (Fl r5), (Pt b21 2), (Fl r11), (Fl r45), (Fl r50)]) rfl rfl (does_assign (u := (Fl r50)) (ev rfl)) rfl ?_
  refine wpList_nil (hK29 _ _ ?_)
  refine wp_ret ?_
  refine ret_val (v := (Fl r50)) (res_T rfl (slot rfl)) X54 ?_
  have x55 : cf .f32 r50 = innerF A_a A_b := by first | with_reducible rfl | (simp only [innerF, h2, h4, h6, h8, h10, h12, h31, h36, h41, h46, h51]; done) | (simp [innerF, h2, h4, h6, h8, h10, h12, h31, h36, h41, h46, h51]; done) | rfl
  exact ⟨r50, rfl, x55⟩

/- impl.LongOf -/
theorem c_impl_LongOf (v : List Value) (A_v : V3) (w : World) (hv_v : RV3 w A_v v) : Gives Try.prog 63 #[(.agg v.toArray)] w (fun v w' => ∃ r_1 : Nat, v = (Fl r_1) ∧ cf .f32 r_1 = longF A_v) := by
  obtain ⟨r1, r3, r5, rfl, h2, h4, h6⟩ := hv_v
  refine enter [(.agg #[(Fl r1), (Fl r3), (Fl r5)]), Ud, Ud, Ud, Ud, Ud, Ud] Try.func63 rfl Try.ntmps63 rfl ?_
  refine wp_seq_k fun K7 hK7 => ?_
  refine wp_region_lit ?_
  refine seqd rfl rfl (does_box (u := (.agg #[(Fl r1), (Fl r3), (Fl r5)])) (ev rfl)) ?_; rintro _ w12 ⟨b8, rfl, hb9, hB10, E11⟩
  have g13 : w.heap.size ≤ b8 := Nat.le_trans (Below.size (Ext.refl w)) hb9
  change Blk _ _ [(Fl r1), (Fl r3), (Fl r5)] at hB10
  have X14 := Ext.gr (Ext.refl w) E11
  show wpList _ _ _ _ (fr [(.agg #[(Fl r1), (Fl r3), (Fl r5)]), (Pt b8 0), Ud, Ud, Ud, Ud, Ud]) _
  refine q_is (l' := [(.agg #[(Fl r1), (Fl r3), (Fl r5)]), (Pt b8 0), (Fl 0), Ud, Ud, Ud, Ud]) rfl rfl (does_assign (u := (Fl 0)) (ev rfl)) rfl ?_
  refine wpList_nil (hK7 _ _ ?_)
  refine wp_seq_k fun K15 hK15 => ?_
  refine wp_region_lit ?_
  refine q_is (l' := [(.agg #[(Fl r1), (Fl r3), (Fl r5)]), (Pt b8 0), (Fl 0), (.agg #[(Fl r1), (Fl r3), (Fl r5)]), Ud, Ud, Ud]) rfl rfl (does_loadAgg (cs := [(Fl r1), (Fl r3), (Fl r5)]) (ev rfl) Try.isAgg26 Try.sizeOf26 (Blk.cells hB10) rfl) rfl ?_
  refine q_is (l' := [(.agg #[(Fl r1), (Fl r3), (Fl r5)]), (Pt b8 0), (Fl 0), (.agg #[(Fl r1), (Fl r3), (Fl r5)]), (.agg #[(Fl r1), (Fl r3), (Fl r5)]), Ud, Ud]) rfl rfl (does_loadAgg (cs := [(Fl r1), (Fl r3), (Fl r5)]) (ev rfl) Try.isAgg26 Try.sizeOf26 (Blk.cells hB10) rfl) rfl ?_
  refine seqd rfl rfl (does_call (args := #[(.agg #[(Fl r1), (Fl r3), (Fl r5)]), (.agg #[(Fl r1), (Fl r3), (Fl r5)])]) cal100 (evs rfl) (c_impl_InnerOf [(Fl r1), (Fl r3), (Fl r5)] A_v [(Fl r1), (Fl r3), (Fl r5)] A_v _ ⟨r1, r3, r5, rfl, h2, h4, h6⟩ ⟨r1, r3, r5, rfl, h2, h4, h6⟩)) ?_; rintro _ w17 ⟨E16, ⟨r18, rfl, h19⟩⟩
  have X20 := Ext.gr X14 E16
  show wpList _ _ _ _ (fr [(.agg #[(Fl r1), (Fl r3), (Fl r5)]), (Pt b8 0), (Fl 0), (.agg #[(Fl r1), (Fl r3), (Fl r5)]), (.agg #[(Fl r1), (Fl r3), (Fl r5)]), (Fl r18), Ud]) _
  refine seqd rfl rfl (does_call (args := #[(Fl r18)]) cal99 (evs rfl) (c_impl_RootNumber r18 _)) ?_; rintro _ w22 ⟨E21, ⟨r23, rfl, h24⟩⟩
  have X25 := Ext.gr X20 E21
  show wpList _ _ _ _ (fr [(.agg #[(Fl r1), (Fl r3), (Fl r5)]), (Pt b8 0), (Fl 0), (.agg #[(Fl r1), (Fl r3), (Fl r5)]), (.agg #[(Fl r1), (Fl r3), (Fl r5)]), (Fl r18), (Fl r23)]) _
  refine q_is (l' := [(.agg #[(Fl r1), (Fl r3), (Fl r5)]), (Pt b8 0), (Fl r23), (.agg #[(Fl r1), (Fl r3), (Fl r5)]), (.agg #[(Fl r1), (Fl r3), (Fl r5)]), (Fl r18), (Fl r23)]) rfl rfl (does_assign (u := (Fl r23)) (ev rfl)) rfl ?_
  refine wpList_nil (hK15 _ _ ?_)
  refine wp_ret ?_
  refine ret_val (v := (Fl r23)) (res_T rfl (slot rfl)) X25 ?_
  have x26 : cf .f32 r23 = longF A_v := by first | with_reducible rfl | (simp only [longF, h2, h4, h6, h19, h24]; done) | (simp [longF, h2, h4, h6, h19, h24]; done) | rfl
  exact ⟨r23, rfl, x26⟩

/- impl.LongRange -/
theorem c_impl_LongRange (x_ : List Value) (A_x_ : Rg) (y_ : List Value) (A_y_ : Rg) (z_ : List Value) (A_z_ : Rg) (w : World) (hv_x_ : RRg w A_x_ x_) (hv_y_ : RRg w A_y_ y_) (hv_z_ : RRg w A_z_ z_) : Gives Try.prog 21 #[(.agg x_.toArray), (.agg y_.toArray), (.agg z_.toArray)] w (fun v w' => ∃ cs_1 : List Value, v = (.agg cs_1.toArray) ∧ RRg w (longR A_x_ A_y_ A_z_) cs_1) := by
  obtain ⟨r1, r3, rfl, h2, h4⟩ := hv_x_
  obtain ⟨r5, r7, rfl, h6, h8⟩ := hv_y_
  obtain ⟨r9, r11, rfl, h10, h12⟩ := hv_z_
  refine enter [(.agg #[(Fl r1), (Fl r3)]), (.agg #[(Fl r5), (Fl r7)]), (.agg #[(Fl r9), (Fl r11)]), Ud, Ud, Ud, Ud, Ud, Ud, Ud, Ud, Ud, Ud, Ud, Ud, Ud, Ud, Ud, Ud, Ud, Ud, Ud, Ud, Ud, Ud, Ud, Ud, Ud, Ud, Ud] Try.func21 rfl Try.ntmps21 rfl ?_
  refine wp_seq_k fun K13 hK13 => ?_
  refine wp_region_lit ?_
  refine seqd rfl rfl (does_box (u := (.agg #[(Fl r1), (Fl r3)])) (ev rfl)) ?_; rintro _ w18 ⟨b14, rfl, hb15, hB16, E17⟩
  have g19 : w.heap.size ≤ b14 := Nat.le_trans (Below.size (Ext.refl w)) hb15
  change Blk _ _ [(Fl r1), (Fl r3)] at hB16
  have X20 := Ext.gr (Ext.refl w) E17
  show wpList _ _ _ _ (fr [(.agg #[(Fl r1), (Fl r3)]), (.agg #[(Fl r5), (Fl r7)]), (.agg #[(Fl r9), (Fl r11)]), (Pt b14 0), Ud, Ud, Ud, Ud, Ud, Ud, Ud, Ud, Ud, Ud, Ud, Ud, Ud, Ud, Ud, Ud, Ud, Ud, Ud, Ud, Ud, Ud, Ud, Ud, Ud, Ud]) _
  refine seqd rfl rfl (does_box (u := (.agg #[(Fl r5), (Fl r7)])) (ev rfl)) ?_; rintro _ w25 ⟨b21, rfl, hb22, hB23, E24⟩
  have n26 : b14 < b21 := Nat.lt_of_lt_of_le (Blk.lt hB16) hb22
  have g27 : w.heap.size ≤ b21 := Nat.le_trans (Below.size X20) hb22
  change Blk _ _ [(Fl r5), (Fl r7)] at hB23
  have X28 := Ext.gr X20 E24
  show wpList _ _ _ _ (fr [(.agg #[(Fl r1), (Fl r3)]), (.agg #[(Fl r5), (Fl r7)]), (.agg #[(Fl r9), (Fl r11)]), (Pt b14 0), (Pt b21 0), Ud, Ud, Ud, Ud, Ud, Ud, Ud, Ud, Ud, Ud, Ud, Ud, Ud, Ud, Ud, Ud, Ud, Ud, Ud, Ud, Ud, Ud, Ud, Ud, Ud]) _
  refine seqd rfl rfl (does_box (u := (.agg #[(Fl r9), (Fl r11)])) (ev rfl)) ?_; rintro _ w33 ⟨b29, rfl, hb30, hB31, E32⟩
  have n34 : b14 < b29 := Nat.lt_of_lt_of_le (Blk.lt (hB16.ext E24)) hb30
  have n35 : b21 < b29 := Nat.lt_of_lt_of_le (Blk.lt hB23) hb30
  have g36 : w.heap.size ≤ b29 := Nat.le_trans (Below.size X28) hb30
  change Blk _ _ [(Fl r9), (Fl r11)] at hB31
  have X37 := Ext.gr X28 E32
  show wpList _ _ _ _ (fr [(.agg #[(Fl r1), (Fl r3)]), (.agg #[(Fl r5), (Fl r7)]), (.agg #[(Fl r9), (Fl r11)]), (Pt b14 0), (Pt b21 0), (Pt b29 0), Ud, Ud, Ud, Ud, Ud, Ud, Ud, Ud, Ud, Ud, Ud, Ud, Ud, Ud, Ud, Ud, Ud, Ud, Ud, Ud, Ud, Ud, Ud, Ud]) _
  refine seqd rfl rfl (does_alloc z38) ?_; rintro _ w42 ⟨b38, rfl, hb39, hB40, E41⟩
  have n43 : b14 < b38 := Nat.lt_of_lt_of_le (Blk.lt ((hB16.ext E24).ext E32)) hb39
  have n44 : b21 < b38 := Nat.lt_of_lt_of_le (Blk.lt (hB23.ext E32)) hb39
  have n45 : b29 < b38 := Nat.lt_of_lt_of_le (Blk.lt hB31) hb39
  have g46 : w.heap.size ≤ b38 := Nat.le_trans (Below.size X37) hb39
  change Blk _ _ [(Fl 0), (Fl 0)] at hB40
  have X47 := Ext.gr X37 E41
  show wpList _ _ _ _ (fr [(.agg #[(Fl r1), (Fl r3)]), (.agg #[(Fl r5), (Fl r7)]), (.agg #[(Fl r9), (Fl r11)]), (Pt b14 0), (Pt b21 0), (Pt b29 0), (Pt b38 0), Ud, Ud, Ud, Ud, Ud, Ud, Ud, Ud, Ud, Ud, Ud, Ud, Ud, Ud, Ud, Ud, Ud, Ud, Ud, Ud, Ud, Ud, Ud]) _
  refine wpList_nil (hK13 _ _ ?_)
  refine wp_seq_k fun K48 hK48 => ?_
  have n52 : b14 < w42.heap.size := Blk.lt (((hB16.ext E24).ext E32).ext E41)
  have n53 : b21 < w42.heap.size := Blk.lt ((hB23.ext E32).ext E41)
  have n54 : b29 < w42.heap.size := Blk.lt (hB31.ext E41)
  refine region_any2 [b14, b21, b29] [0, 1, 0, 7, 0, 31, 63, 127, 255] [0, 1, 2] (
    [FactW.pure [] [] [0, 1, 2] true (fun v => v = (.agg #[(Fl r1), (Fl r3)])),
      FactW.pure [0] [] [0, 1, 2] true (fun v => ∃ cs_1 : List Value, v = (.agg cs_1.toArray) ∧ RRg w (szRange A_x_) cs_1),
      FactW.pure [] [] [0, 1, 2] true (fun v => v = (.agg #[(Fl r5), (Fl r7)])),
      FactW.pure [2] [] [0, 1, 2] true (fun v => ∃ cs_1 : List Value, v = (.agg cs_1.toArray) ∧ RRg w (szRange A_y_) cs_1),
      FactW.pure [] [] [0, 1, 2] true (fun v => v = (.agg #[(Fl r9), (Fl r11)])),
      FactW.pure [4] [] [0, 1, 2] true (fun v => ∃ cs_1 : List Value, v = (.agg cs_1.toArray) ∧ RRg w (szRange A_z_) cs_1),
      FactW.mem [1] [] [0] [1, 2] true (fun v w' => v = undef ∧ ∃ r_1 : Nat, ∃ r_2 : Nat, Blk w' b14 [(Fl r_1), (Fl r_2)] ∧ cf .f32 r_1 = (szRange A_x_).lo ∧ cf .f32 r_2 = (szRange A_x_).hi) (by rintro v w1 w2 hx ⟨rfl, z0, z1, h, k0, k1⟩; exact ⟨rfl, z0, z1, h.kl hx (ninS (Nat.ne_of_lt n26) (ninS (Nat.ne_of_lt n34) nin0)), k0, k1⟩),
      FactW.mem [6, 3] [0] [1] [0, 2] true (fun v w' => v = undef ∧ ∃ r_1 : Nat, ∃ r_2 : Nat, Blk w' b21 [(Fl r_1), (Fl r_2)] ∧ cf .f32 r_1 = (szRange A_y_).lo ∧ cf .f32 r_2 = (szRange A_y_).hi) (by rintro v w1 w2 hx ⟨rfl, z0, z1, h, k0, k1⟩; exact ⟨rfl, z0, z1, h.kl hx (ninS (Nat.ne_of_gt n26) (ninS (Nat.ne_of_lt n35) nin0)), k0, k1⟩),
      FactW.mem [6, 7, 5] [0, 1] [2] [0, 1] true (fun v w' => v = undef ∧ ∃ r_1 : Nat, ∃ r_2 : Nat, Blk w' b29 [(Fl r_1), (Fl r_2)] ∧ cf .f32 r_1 = (szRange A_z_).lo ∧ cf .f32 r_2 = (szRange A_z_).hi) (by rintro v w1 w2 hx ⟨rfl, z0, z1, h, k0, k1⟩; exact ⟨rfl, z0, z1, h.kl hx (ninS (Nat.ne_of_gt n34) (ninS (Nat.ne_of_gt n35) nin0)), k0, k1⟩)]) mixed rfl (by kernel_rfl) ?_
  obtain ⟨w49, hw51⟩ : ∃ w', w' = World.drew w42 := ⟨_, rfl⟩; rw [← hw51]; have E50 : Ext w42 w49 := by rw [hw51]; exact Ext.draw _
  clear hw51
  have X55 := Ext.gr X47 E50
  refine RW2_d (fun v56 => [(.agg #[(Fl r1), (Fl r3)]), (.agg #[(Fl r5), (Fl r7)]), (.agg #[(Fl r9), (Fl r11)]), (Pt b14 0), (Pt b21 0), (Pt b29 0), (Pt b38 0), v56, Ud, Ud, Ud, Ud, Ud, Ud, Ud, Ud, Ud, Ud, Ud, Ud, Ud, Ud, Ud, Ud, Ud, Ud, Ud, Ud, Ud, Ud]) rfl (fun _ => rfl) (fun u hu hF => ?_) (fun v56 => ?_)
  · replace hu : KpL [] _ _ := hu
    clear hF
    refine doesG_un rfl ?_
    refine (does_loadAgg (cs := [(Fl r1), (Fl r3)]) (ev rfl) Try.isAgg38 Try.sizeOf38 (Blk.cells (((((hB16.ext E24).ext E32).ext E41).ext E50).ext (KpL.toExt hu))) rfl).mono ?_; rintro _ _ ⟨rfl, rfl⟩
    exact ⟨rfl, KpL.refl _ _⟩
  refine RW2_d (fun v57 => [(.agg #[(Fl r1), (Fl r3)]), (.agg #[(Fl r5), (Fl r7)]), (.agg #[(Fl r9), (Fl r11)]), (Pt b14 0), (Pt b21 0), (Pt b29 0), (Pt b38 0), v56, v57, Ud, Ud, Ud, Ud, Ud, Ud, Ud, Ud, Ud, Ud, Ud, Ud, Ud, Ud, Ud, Ud, Ud, Ud, Ud, Ud, Ud]) rfl (fun _ => rfl) (fun u hu hF => ?_) (fun v57 => ?_)
  · replace hu : KpL [] _ _ := hu
    have h7_ : v56 = (.agg #[(Fl r1), (Fl r3)]) := hF.1
    clear hF
    refine doesG_un rfl ?_
    obtain rfl := h7_
    refine (does_call (args := #[(.agg #[(Fl r1), (Fl r3)])]) cal62 (evs rfl) (c_impl_SizeRange [(Fl r1), (Fl r3)] A_x_ _ ⟨r1, r3, rfl, h2, h4⟩)).mono ?_; rintro v u' ⟨hx, ⟨csn1, hv, k0⟩⟩
    exact ⟨⟨csn1, hv, k0⟩, (KpL.of_ext hx)⟩
  refine RW2_d (fun v58 => [(.agg #[(Fl r1), (Fl r3)]), (.agg #[(Fl r5), (Fl r7)]), (.agg #[(Fl r9), (Fl r11)]), (Pt b14 0), (Pt b21 0), (Pt b29 0), (Pt b38 0), v56, v57, v58, Ud, Ud, Ud, Ud, Ud, Ud, Ud, Ud, Ud, Ud, Ud, Ud, Ud, Ud, Ud, Ud, Ud, Ud, Ud, Ud]) rfl (fun _ => rfl) (fun u hu hF => ?_) (fun v58 => ?_)
  · replace hu : KpL [] _ _ := hu
    clear hF
    refine doesG_un rfl ?_
    refine (does_loadAgg (cs := [(Fl r5), (Fl r7)]) (ev rfl) Try.isAgg38 Try.sizeOf38 (Blk.cells ((((hB23.ext E32).ext E41).ext E50).ext (KpL.toExt hu))) rfl).mono ?_; rintro _ _ ⟨rfl, rfl⟩
    exact ⟨rfl, KpL.refl _ _⟩
  refine RW2_d (fun v59 => [(.agg #[(Fl r1), (Fl r3)]), (.agg #[(Fl r5), (Fl r7)]), (.agg #[(Fl r9), (Fl r11)]), (Pt b14 0), (Pt b21 0), (Pt b29 0), (Pt b38 0), v56, v57, v58, v59, Ud, Ud, Ud, Ud, Ud, Ud, Ud, Ud, Ud, Ud, Ud, Ud, Ud, Ud, Ud, Ud, Ud, Ud, Ud]) rfl (fun _ => rfl) (fun u hu hF => ?_) (fun v59 => ?_)
  · replace hu : KpL [] _ _ := hu
    have h9_ : v58 = (.agg #[(Fl r5), (Fl r7)]) := hF.1
    clear hF
    refine doesG_un rfl ?_
    obtain rfl := h9_
    refine (does_call (args := #[(.agg #[(Fl r5), (Fl r7)])]) cal62 (evs rfl) (c_impl_SizeRange [(Fl r5), (Fl r7)] A_y_ _ ⟨r5, r7, rfl, h6, h8⟩)).mono ?_; rintro v u' ⟨hx, ⟨csn1, hv, k0⟩⟩
    exact ⟨⟨csn1, hv, k0⟩, (KpL.of_ext hx)⟩
  refine RW2_d (fun v60 => [(.agg #[(Fl r1), (Fl r3)]), (.agg #[(Fl r5), (Fl r7)]), (.agg #[(Fl r9), (Fl r11)]), (Pt b14 0), (Pt b21 0), (Pt b29 0), (Pt b38 0), v56, v57, v58, v59, v60, Ud, Ud, Ud, Ud, Ud, Ud, Ud, Ud, Ud, Ud, Ud, Ud, Ud, Ud, Ud, Ud, Ud, Ud]) rfl (fun _ => rfl) (fun u hu hF => ?_) (fun v60 => ?_)
  · replace hu : KpL [] _ _ := hu
    clear hF
    refine doesG_un rfl ?_
    refine (does_loadAgg (cs := [(Fl r9), (Fl r11)]) (ev rfl) Try.isAgg38 Try.sizeOf38 (Blk.cells (((hB31.ext E41).ext E50).ext (KpL.toExt hu))) rfl).mono ?_; rintro _ _ ⟨rfl, rfl⟩
    exact ⟨rfl, KpL.refl _ _⟩
  refine RW2_d (fun v61 => [(.agg #[(Fl r1), (Fl r3)]), (.agg #[(Fl r5), (Fl r7)]), (.agg #[(Fl r9), (Fl r11)]), (Pt b14 0), (Pt b21 0), (Pt b29 0), (Pt b38 0), v56, v57, v58, v59, v60, v61, Ud, Ud, Ud, Ud, Ud, Ud, Ud, Ud, Ud, Ud, Ud, Ud, Ud, Ud, Ud, Ud, Ud]) rfl (fun _ => rfl) (fun u hu hF => ?_) (fun v61 => ?_)
  · replace hu : KpL [] _ _ := hu
    have h11_ : v60 = (.agg #[(Fl r9), (Fl r11)]) := hF.1
    clear hF
    refine doesG_un rfl ?_
    obtain rfl := h11_
    refine (does_call (args := #[(.agg #[(Fl r9), (Fl r11)])]) cal62 (evs rfl) (c_impl_SizeRange [(Fl r9), (Fl r11)] A_z_ _ ⟨r9, r11, rfl, h10, h12⟩)).mono ?_; rintro v u' ⟨hx, ⟨csn1, hv, k0⟩⟩
    exact ⟨⟨csn1, hv, k0⟩, (KpL.of_ext hx)⟩
  refine RW2_n rfl (fun u hu hF => ?_) (fun v62 => ?_)
  · replace hu : KpL [] _ _ := hu
    have h8_ : ∃ cs_1 : List Value, v57 = (.agg cs_1.toArray) ∧ RRg w (szRange A_x_) cs_1 := hF.1
    clear hF
    refine doesG_un rfl ?_
    obtain ⟨_, rfl, ⟨r8_1, r8_3, rfl, h8_2, h8_4⟩⟩ := h8_
    refine (does_store (n := 2) (cs := [(Fl r1), (Fl r3)]) (u := (.agg #[(Fl r8_1), (Fl r8_3)])) (ev rfl) (ev rfl) Try.sizeOf38 rfl (((((hB16.ext E24).ext E32).ext E41).ext E50).ext (KpL.toExt hu)) (Nat.le_of_ble_eq_true rfl) rfl).mono ?_; rintro _ _ ⟨rfl, hW, hB⟩
    exact ⟨⟨rfl, r8_1, r8_3, hB, (by simp only [h8_2, h8_4]), (by simp only [h8_2, h8_4])⟩, KpL.of_wr hW⟩
  refine RW2_n rfl (fun u hu hF => ?_) (fun v63 => ?_)
  · replace hu : KpL [b14] _ _ := hu
    obtain ⟨_, rs6_1, rs6_2, hs6_, es6_0, es6_1⟩ := hF.1
    have h10_ : ∃ cs_1 : List Value, v59 = (.agg cs_1.toArray) ∧ RRg w (szRange A_y_) cs_1 := hF.2.1
    clear hF
    refine doesG_un rfl ?_
    obtain ⟨_, rfl, ⟨r10_1, r10_3, rfl, h10_2, h10_4⟩⟩ := h10_
    refine (does_store (n := 2) (cs := [(Fl r5), (Fl r7)]) (u := (.agg #[(Fl r10_1), (Fl r10_3)])) (ev rfl) (ev rfl) Try.sizeOf38 rfl ((((hB23.ext E32).ext E41).ext E50).kl hu (ninS (Nat.ne_of_gt n26) nin0)) (Nat.le_of_ble_eq_true rfl) rfl).mono ?_; rintro _ _ ⟨rfl, hW, hB⟩
    exact ⟨⟨rfl, r10_1, r10_3, hB, (by simp only [es6_0, es6_1, h10_2, h10_4]), (by simp only [es6_0, es6_1, h10_2, h10_4])⟩, KpL.of_wr hW⟩
  refine RW2_n rfl (fun u hu hF => ?_) (fun v64 => ?_)
  · replace hu : KpL [b14, b21] _ _ := hu
    obtain ⟨_, rs6_1, rs6_2, hs6_, es6_0, es6_1⟩ := hF.1
    obtain ⟨_, rs7_1, rs7_2, hs7_, es7_0, es7_1⟩ := hF.2.1
    have h12_ : ∃ cs_1 : List Value, v61 = (.agg cs_1.toArray) ∧ RRg w (szRange A_z_) cs_1 := hF.2.2.1
    clear hF
    refine doesG_un rfl ?_
    obtain ⟨_, rfl, ⟨r12_1, r12_3, rfl, h12_2, h12_4⟩⟩ := h12_
    refine (does_store (n := 2) (cs := [(Fl r9), (Fl r11)]) (u := (.agg #[(Fl r12_1), (Fl r12_3)])) (ev rfl) (ev rfl) Try.sizeOf38 rfl (((hB31.ext E41).ext E50).kl hu (ninS (Nat.ne_of_gt n34) (ninS (Nat.ne_of_gt n35) nin0))) (Nat.le_of_ble_eq_true rfl) rfl).mono ?_; rintro _ _ ⟨rfl, hW, hB⟩
    exact ⟨⟨rfl, r12_1, r12_3, hB, (by simp only [es6_0, es6_1, es7_0, es7_1, h12_2, h12_4]), (by simp only [es6_0, es6_1, es7_0, es7_1, h12_2, h12_4])⟩, KpL.of_wr hW⟩
  refine RW2_fin ?_; intro w65 E66 hP67; replace E66 : KpL [b14, b21, b29] _ _ := E66
  obtain ⟨⟨⟨⟨⟨⟨⟨⟨⟨-, -⟩, -⟩, -⟩, -⟩, -⟩, -⟩, q68⟩, q69⟩, q70⟩ := hP67
  have X71 := Below.kl X55 E66 (allS g19 (allS g27 (allS g36 all0))) (Nat.le_refl _)
  obtain ⟨_, r73, r74, hB72, h75, h76⟩ := q68 rfl
  change Blk _ _ [(Fl r73), (Fl r74)] at hB72
  obtain ⟨_, r78, r79, hB77, h80, h81⟩ := q69 rfl
  change Blk _ _ [(Fl r78), (Fl r79)] at hB77
  obtain ⟨_, r83, r84, hB82, h85, h86⟩ := q70 rfl
  change Blk _ _ [(Fl r83), (Fl r84)] at hB82
  show wpList _ _ _ _ (fr [(.agg #[(Fl r1), (Fl r3)]), (.agg #[(Fl r5), (Fl r7)]), (.agg #[(Fl r9), (Fl r11)]), (Pt b14 0), (Pt b21 0), (Pt b29 0), (Pt b38 0), v56, v57, v58, v59, v60, v61, Ud, Ud, Ud, Ud, Ud, Ud, Ud, Ud, Ud, Ud, Ud, Ud, Ud, Ud, Ud, Ud, Ud]) _
  refine wpList_nil (hK48 _ _ ?_)
  refine wp_seq_k fun K87 hK87 => ?_
  refine region_draw (
    [Fact.pure [] (fun v => v = (Pt b14 0)),
    Fact.pure [13] (fun v => v = (Fl r73)),
    Fact.pure [] (fun v => v = (Pt b21 0)),
    Fact.pure [15] (fun v => v = (Fl r78)),
    Fact.pure [] (fun v => v = (Pt b29 0)),
    Fact.pure [17] (fun v => v = (Fl r83)),
    Fact.pure [14, 16, 18] (fun v => v = (.agg #[(Fl r73), (Fl r78), (Fl r83)])),
    Fact.pure [19] (fun v => ∃ r_1 : Nat, v = (Fl r_1) ∧ cf .f32 r_1 = longF (V3.mk ((szRange A_x_).lo) ((szRange A_y_).lo) ((szRange A_z_).lo))),
    Fact.pure [] (fun v => v = (Pt b14 1)),
    Fact.pure [21] (fun v => v = (Fl r74)),
    Fact.pure [] (fun v => v = (Pt b21 1)),
    Fact.pure [23] (fun v => v = (Fl r79)),
    Fact.pure [] (fun v => v = (Pt b29 1)),
    Fact.pure [25] (fun v => v = (Fl r84)),
    Fact.pure [22, 24, 26] (fun v => v = (.agg #[(Fl r74), (Fl r79), (Fl r84)])),
    Fact.pure [27] (fun v => ∃ r_1 : Nat, v = (Fl r_1) ∧ cf .f32 r_1 = longF (V3.mk ((szRange A_x_).hi) ((szRange A_y_).hi) ((szRange A_z_).hi))),
    Fact.pure [20, 28] (fun v => ∃ r_1 : Nat, ∃ r_2 : Nat, v = (.agg #[(Fl r_1), (Fl r_2)]) ∧ cf .f32 r_1 = longF (V3.mk ((szRange A_x_).lo) ((szRange A_y_).lo) ((szRange A_z_).lo)) ∧ cf .f32 r_2 = longF (V3.mk ((szRange A_x_).hi) ((szRange A_y_).hi) ((szRange A_z_).hi)))]) mixed (by kernel_rfl) (by intro _ _ d _ _ h; cases d <;> exact h) ?_
  obtain ⟨w88, hw90⟩ : ∃ w', w' = World.drew w65 := ⟨_, rfl⟩; rw [← hw90]; have E89 : Ext w65 w88 := by rw [hw90]; exact Ext.draw _
  clear hw90
  have X91 := Ext.gr X71 E89
  refine RW_d (fun v92 => [(.agg #[(Fl r1), (Fl r3)]), (.agg #[(Fl r5), (Fl r7)]), (.agg #[(Fl r9), (Fl r11)]), (Pt b14 0), (Pt b21 0), (Pt b29 0), (Pt b38 0), v56, v57, v58, v59, v60, v61, v92, Ud, Ud, Ud, Ud, Ud, Ud, Ud, Ud, Ud, Ud, Ud, Ud, Ud, Ud, Ud, Ud]) rfl (fun _ => rfl) (fun u hu hF => ?_) (fun v92 => ?_)
  · clear hF
    refine doesG_un rfl ?_
    refine (does_fieldAddr (ev rfl) fa38_0).mono ?_; rintro _ _ ⟨rfl, rfl⟩
    exact ⟨rfl, Ext.refl _⟩
  refine RW_d (fun v93 => [(.agg #[(Fl r1), (Fl r3)]), (.agg #[(Fl r5), (Fl r7)]), (.agg #[(Fl r9), (Fl r11)]), (Pt b14 0), (Pt b21 0), (Pt b29 0), (Pt b38 0), v56, v57, v58, v59, v60, v61, v92, v93, Ud, Ud, Ud, Ud, Ud, Ud, Ud, Ud, Ud, Ud, Ud, Ud, Ud, Ud, Ud]) rfl (fun _ => rfl) (fun u hu hF => ?_) (fun v93 => ?_)
  · have h13_ : v92 = (Pt b14 0) := hF.1
    clear hF
    refine doesG_un rfl ?_
    obtain rfl := h13_
    refine (does_load (u := (Fl r73)) (ev rfl) Try.isAgg24 (Cells.at (Blk.cells ((hB72.ext E89).ext hu)) 0 rfl)).mono ?_; rintro _ _ ⟨rfl, rfl⟩
    exact ⟨rfl, Ext.refl _⟩
  refine RW_d (fun v94 => [(.agg #[(Fl r1), (Fl r3)]), (.agg #[(Fl r5), (Fl r7)]), (.agg #[(Fl r9), (Fl r11)]), (Pt b14 0), (Pt b21 0), (Pt b29 0), (Pt b38 0), v56, v57, v58, v59, v60, v61, v92, v93, v94, Ud, Ud, Ud, Ud, Ud, Ud, Ud, Ud, Ud, Ud, Ud, Ud, Ud, Ud]) rfl (fun _ => rfl) (fun u hu hF => ?_) (fun v94 => ?_)
  · clear hF
    refine doesG_un rfl ?_
    refine (does_fieldAddr (ev rfl) fa38_0).mono ?_; rintro _ _ ⟨rfl, rfl⟩
    exact ⟨rfl, Ext.refl _⟩
  refine RW_d (fun v95 => [(.agg #[(Fl r1), (Fl r3)]), (.agg #[(Fl r5), (Fl r7)]), (.agg #[(Fl r9), (Fl r11)]), (Pt b14 0), (Pt b21 0), (Pt b29 0), (Pt b38 0), v56, v57, v58, v59, v60, v61, v92, v93, v94, v95, Ud, Ud, Ud, Ud, Ud, Ud, Ud, Ud, Ud, Ud, Ud, Ud, Ud]) rfl (fun _ => rfl) (fun u hu hF => ?_) (fun v95 => ?_)
  · have h15_ : v94 = (Pt b21 0) := hF.1
    clear hF
    refine doesG_un rfl ?_
    obtain rfl := h15_
    refine (does_load (u := (Fl r78)) (ev rfl) Try.isAgg24 (Cells.at (Blk.cells ((hB77.ext E89).ext hu)) 0 rfl)).mono ?_; rintro _ _ ⟨rfl, rfl⟩
    exact ⟨rfl, Ext.refl _⟩
  refine RW_d (fun v96 => [(.agg #[(Fl r1), (Fl r3)]), (.agg #[(Fl r5), (Fl r7)]), (.agg #[(Fl r9), (Fl r11)]), (Pt b14 0), (Pt b21 0), (Pt b29 0), (Pt b38 0), v56, v57, v58, v59, v60, v61, v92, v93, v94, v95, v96, Ud, Ud, Ud, Ud, Ud, Ud, Ud, Ud, Ud, Ud, Ud, Ud]) rfl (fun _ => rfl) (fun u hu hF => ?_) (fun v96 => ?_)
  · clear hF
    refine doesG_un rfl ?_
    refine (does_fieldAddr (ev rfl) fa38_0).mono ?_; rintro _ _ ⟨rfl, rfl⟩
    exact ⟨rfl, Ext.refl _⟩
  refine RW_d (fun v97 => [(.agg #[(Fl r1), (Fl r3)]), (.agg #[(Fl r5), (Fl r7)]), (.agg #[(Fl r9), (Fl r11)]), (Pt b14 0), (Pt b21 0), (Pt b29 0), (Pt b38 0), v56, v57, v58, v59, v60, v61, v92, v93, v94, v95, v96, v97, Ud, Ud, Ud, Ud, Ud, Ud, Ud, Ud, Ud, Ud, Ud]) rfl (fun _ => rfl) (fun u hu hF => ?_) (fun v97 => ?_)
  · have h17_ : v96 = (Pt b29 0) := hF.1
    clear hF
    refine doesG_un rfl ?_
    obtain rfl := h17_
    refine (does_load (u := (Fl r83)) (ev rfl) Try.isAgg24 (Cells.at (Blk.cells ((hB82.ext E89).ext hu)) 0 rfl)).mono ?_; rintro _ _ ⟨rfl, rfl⟩
    exact ⟨rfl, Ext.refl _⟩
  refine RW_d (fun v98 => [(.agg #[(Fl r1), (Fl r3)]), (.agg #[(Fl r5), (Fl r7)]), (.agg #[(Fl r9), (Fl r11)]), (Pt b14 0), (Pt b21 0), (Pt b29 0), (Pt b38 0), v56, v57, v58, v59, v60, v61, v92, v93, v94, v95, v96, v97, v98, Ud, Ud, Ud, Ud, Ud, Ud, Ud, Ud, Ud, Ud]) rfl (fun _ => rfl) (fun u hu hF => ?_) (fun v98 => ?_)
  · have h14_ : v93 = (Fl r73) := hF.1
    have h16_ : v95 = (Fl r78) := hF.2.1
    have h18_ : v97 = (Fl r83) := hF.2.2.1
    clear hF
    refine doesG_un rfl ?_
    obtain rfl := h14_
    obtain rfl := h16_
    obtain rfl := h18_
    refine (does_build (parts' := [(0, (Fl r73)), (1, (Fl r78)), (2, (Fl r83))]) (cells := #[(Fl r73), (Fl r78), (Fl r83)]) (evp rfl) (by kernel_rfl)).mono ?_; rintro _ _ ⟨rfl, rfl⟩
    exact ⟨rfl, Ext.refl _⟩
  refine RW_d (fun v99 => [(.agg #[(Fl r1), (Fl r3)]), (.agg #[(Fl r5), (Fl r7)]), (.agg #[(Fl r9), (Fl r11)]), (Pt b14 0), (Pt b21 0), (Pt b29 0), (Pt b38 0), v56, v57, v58, v59, v60, v61, v92, v93, v94, v95, v96, v97, v98, v99, Ud, Ud, Ud, Ud, Ud, Ud, Ud, Ud, Ud]) rfl (fun _ => rfl) (fun u hu hF => ?_) (fun v99 => ?_)
  · have h19_ : v98 = (.agg #[(Fl r73), (Fl r78), (Fl r83)]) := hF.1
    clear hF
    refine doesG_un rfl ?_
    obtain rfl := h19_
    refine (does_call (args := #[(.agg #[(Fl r73), (Fl r78), (Fl r83)])]) cal63 (evs rfl) (c_impl_LongOf [(Fl r73), (Fl r78), (Fl r83)] (V3.mk ((szRange A_x_).lo) ((szRange A_y_).lo) ((szRange A_z_).lo)) _ ⟨r73, r78, r83, rfl, h75, h80, h85⟩)).mono ?_; rintro v u' ⟨hx, ⟨rn1, hv, k0⟩⟩
    exact ⟨⟨rn1, hv, (by simp only [k0])⟩, hx⟩
  refine RW_d (fun v100 => [(.agg #[(Fl r1), (Fl r3)]), (.agg #[(Fl r5), (Fl r7)]), (.agg #[(Fl r9), (Fl r11)]), (Pt b14 0), (Pt b21 0), (Pt b29 0), (Pt b38 0), v56, v57, v58, v59, v60, v61, v92, v93, v94, v95, v96, v97, v98, v99, v100, Ud, Ud, Ud, Ud, Ud, Ud, Ud, Ud]) rfl (fun _ => rfl) (fun u hu hF => ?_) (fun v100 => ?_)
  · clear hF
    refine doesG_un rfl ?_
    refine (does_fieldAddr (ev rfl) fa38_1).mono ?_; rintro _ _ ⟨rfl, rfl⟩
    exact ⟨rfl, Ext.refl _⟩
  refine RW_d (fun v101 => [(.agg #[(Fl r1), (Fl r3)]), (.agg #[(Fl r5), (Fl r7)]), (.agg #[(Fl r9), (Fl r11)]), (Pt b14 0), (Pt b21 0), (Pt b29 0), (Pt b38 0), v56, v57, v58, v59, v60, v61, v92, v93, v94, v95, v96, v97, v98, v99, v100, v101, Ud, Ud, Ud, Ud, Ud, Ud, Ud]) rfl (fun _ => rfl) (fun u hu hF => ?_) (fun v101 => ?_)
  · have h21_ : v100 = (Pt b14 1) := hF.1
    clear hF
    refine doesG_un rfl ?_
    obtain rfl := h21_
    refine (does_load (u := (Fl r74)) (ev rfl) Try.isAgg24 (Cells.at (Blk.cells ((hB72.ext E89).ext hu)) 1 rfl)).mono ?_; rintro _ _ ⟨rfl, rfl⟩
    exact ⟨rfl, Ext.refl _⟩
  refine RW_d (fun v102 => [(.agg #[(Fl r1), (Fl r3)]), (.agg #[(Fl r5), (Fl r7)]), (.agg #[(Fl r9), (Fl r11)]), (Pt b14 0), (Pt b21 0), (Pt b29 0), (Pt b38 0), v56, v57, v58, v59, v60, v61, v92, v93, v94, v95, v96, v97, v98, v99, v100, v101, v102, Ud, Ud, Ud, Ud, Ud, Ud]) rfl (fun _ => rfl) (fun u hu hF => ?_) (fun v102 => ?_)
  · clear hF
    refine doesG_un rfl ?_
    refine (does_fieldAddr (ev rfl) fa38_1).mono ?_; rintro _ _ ⟨rfl, rfl⟩
    exact ⟨rfl, Ext.refl _⟩
  refine RW_d (fun v103 => [(.agg #[(Fl r1), (Fl r3)]), (.agg #[(Fl r5), (Fl r7)]), (.agg #[(Fl r9), (Fl r11)]), (Pt b14 0), (Pt b21 0), (Pt b29 0), (Pt b38 0), v56, v57, v58, v59, v60, v61, v92, v93, v94, v95, v96, v97, v98, v99, v100, v101, v102, v103, Ud, Ud, Ud, Ud, Ud]) rfl (fun _ => rfl) (fun u hu hF => ?_) (fun v103 => ?_)
  · have h23_ : v102 = (Pt b21 1) := hF.1
    clear hF
    refine doesG_un rfl ?_
    obtain rfl := h23_
    refine (does_load (u := (Fl r79)) (ev rfl) Try.isAgg24 (Cells.at (Blk.cells ((hB77.ext E89).ext hu)) 1 rfl)).mono ?_; rintro _ _ ⟨rfl, rfl⟩
    exact ⟨rfl, Ext.refl _⟩
  refine RW_d (fun v104 => [(.agg #[(Fl r1), (Fl r3)]), (.agg #[(Fl r5), (Fl r7)]), (.agg #[(Fl r9), (Fl r11)]), (Pt b14 0), (Pt b21 0), (Pt b29 0), (Pt b38 0), v56, v57, v58, v59, v60, v61, v92, v93, v94, v95, v96, v97, v98, v99, v100, v101, v102, v103, v104, Ud, Ud, Ud, Ud]) rfl (fun _ => rfl) (fun u hu hF => ?_) (fun v104 => ?_)
  · clear hF
    refine doesG_un rfl ?_
    refine (does_fieldAddr (ev rfl) fa38_1).mono ?_; rintro _ _ ⟨rfl, rfl⟩
    exact ⟨rfl, Ext.refl _⟩
  refine RW_d (fun v105 => [(.agg #[(Fl r1), (Fl r3)]), (.agg #[(Fl r5), (Fl r7)]), (.agg #[(Fl r9), (Fl r11)]), (Pt b14 0), (Pt b21 0), (Pt b29 0), (Pt b38 0), v56, v57, v58, v59, v60, v61, v92, v93, v94, v95, v96, v97, v98, v99, v100, v101, v102, v103, v104, v105, Ud, Ud, Ud]) rfl (fun _ => rfl) (fun u hu hF => ?_) (fun v105 => ?_)
  · have h25_ : v104 = (Pt b29 1) := hF.1
    clear hF
    refine doesG_un rfl ?_
    obtain rfl := h25_
    refine (does_load (u := (Fl r84)) (ev rfl) Try.isAgg24 (Cells.at (Blk.cells ((hB82.ext E89).ext hu)) 1 rfl)).mono ?_; rintro _ _ ⟨rfl, rfl⟩
    exact ⟨rfl, Ext.refl _⟩
  refine RW_d (fun v106 => [(.agg #[(Fl r1), (Fl r3)]), (.agg #[(Fl r5), (Fl r7)]), (.agg #[(Fl r9), (Fl r11)]), (Pt b14 0), (Pt b21 0), (Pt b29 0), (Pt b38 0), v56, v57, v58, v59, v60, v61, v92, v93, v94, v95, v96, v97, v98, v99, v100, v101, v102, v103, v104, v105, v106, Ud, Ud]) rfl (fun _ => rfl) (fun u hu hF => ?_) (fun v106 => ?_)
  · have h22_ : v101 = (Fl r74) := hF.1
    have h24_ : v103 = (Fl r79) := hF.2.1
    have h26_ : v105 = (Fl r84) := hF.2.2.1
    clear hF
    refine doesG_un rfl ?_
    obtain rfl := h22_
    obtain rfl := h24_
    obtain rfl := h26_
    refine (does_build (parts' := [(0, (Fl r74)), (1, (Fl r79)), (2, (Fl r84))]) (cells := #[(Fl r74), (Fl r79), (Fl r84)]) (evp rfl) (by kernel_rfl)).mono ?_; rintro _ _ ⟨rfl, rfl⟩
    exact ⟨rfl, Ext.refl _⟩
  refine RW_d (fun v107 => [(.agg #[(Fl r1), (Fl r3)]), (.agg #[(Fl r5), (Fl r7)]), (.agg #[(Fl r9), (Fl r11)]), (Pt b14 0), (Pt b21 0), (Pt b29 0), (Pt b38 0), v56, v57, v58, v59, v60, v61, v92, v93, v94, v95, v96, v97, v98, v99, v100, v101, v102, v103, v104, v105, v106, v107, Ud]) rfl (fun _ => rfl) (fun u hu hF => ?_) (fun v107 => ?_)
  · have h27_ : v106 = (.agg #[(Fl r74), (Fl r79), (Fl r84)]) := hF.1
    clear hF
    refine doesG_un rfl ?_
    obtain rfl := h27_
    refine (does_call (args := #[(.agg #[(Fl r74), (Fl r79), (Fl r84)])]) cal63 (evs rfl) (c_impl_LongOf [(Fl r74), (Fl r79), (Fl r84)] (V3.mk ((szRange A_x_).hi) ((szRange A_y_).hi) ((szRange A_z_).hi)) _ ⟨r74, r79, r84, rfl, h76, h81, h86⟩)).mono ?_; rintro v u' ⟨hx, ⟨rn1, hv, k0⟩⟩
    exact ⟨⟨rn1, hv, (by simp only [k0])⟩, hx⟩
  refine RW_d (fun v108 => [(.agg #[(Fl r1), (Fl r3)]), (.agg #[(Fl r5), (Fl r7)]), (.agg #[(Fl r9), (Fl r11)]), (Pt b14 0), (Pt b21 0), (Pt b29 0), (Pt b38 0), v56, v57, v58, v59, v60, v61, v92, v93, v94, v95, v96, v97, v98, v99, v100, v101, v102, v103, v104, v105, v106, v107, v108]) rfl (fun _ => rfl) (fun u hu hF => ?_) (fun v108 => ?_)
  · have h20_ : ∃ r_1 : Nat, v99 = (Fl r_1) ∧ cf .f32 r_1 = longF (V3.mk ((szRange A_x_).lo) ((szRange A_y_).lo) ((szRange A_z_).lo)) := hF.1
    have h28_ : ∃ r_1 : Nat, v107 = (Fl r_1) ∧ cf .f32 r_1 = longF (V3.mk ((szRange A_x_).hi) ((szRange A_y_).hi) ((szRange A_z_).hi)) := hF.2.1
    clear hF
    refine doesG_un rfl ?_
    obtain ⟨r20_1, rfl, h20_2⟩ := h20_
    obtain ⟨r28_1, rfl, h28_2⟩ := h28_
    refine (does_build (parts' := [(0, (Fl r20_1)), (1, (Fl r28_1))]) (cells := #[(Fl r20_1), (Fl r28_1)]) (evp rfl) (by kernel_rfl)).mono ?_; rintro _ _ ⟨rfl, rfl⟩
    exact ⟨⟨r20_1, r28_1, rfl, (by simp only [h20_2, h28_2]), (by simp only [h20_2, h28_2])⟩, Ext.refl _⟩
  refine RW_fin ?_; intro w109 E110 hP111
  obtain ⟨⟨⟨⟨⟨⟨⟨⟨⟨⟨⟨⟨⟨⟨⟨⟨⟨-, -⟩, -⟩, -⟩, -⟩, -⟩, -⟩, -⟩, -⟩, -⟩, -⟩, -⟩, -⟩, -⟩, -⟩, -⟩, -⟩, q112⟩ := hP111
  have X113 := Ext.gr X91 E110
  have q112 : ∃ r_1 : Nat, ∃ r_2 : Nat, v108 = (.agg #[(Fl r_1), (Fl r_2)]) ∧ cf .f32 r_1 = longF (V3.mk ((szRange A_x_).lo) ((szRange A_y_).lo) ((szRange A_z_).lo)) ∧ cf .f32 r_2 = longF (V3.mk ((szRange A_x_).hi) ((szRange A_y_).hi) ((szRange A_z_).hi)) := q112
  obtain ⟨r114, r116, rfl, h115, h117⟩ := q112
  show wpList _ _ _ _ (fr [(.agg #[(Fl r1), (Fl r3)]), (.agg #[(Fl r5), (Fl r7)]), (.agg #[(Fl r9), (Fl r11)]), (Pt b14 0), (Pt b21 0), (Pt b29 0), (Pt b38 0), v56, v57, v58, v59, v60, v61, v92, v93, v94, v95, v96, v97, v98, v99, v100, v101, v102, v103, v104, v105, v106, v107, (.agg #[(Fl r114), (Fl r116)])]) _
  refine seqn rfl rfl (does_store (n := 2) (cs := [(Fl 0), (Fl 0)]) (u := (.agg #[(Fl r114), (Fl r116)])) (ev rfl) (ev rfl) Try.sizeOf38 rfl ((((hB40.ext E50).kl E66 (ninS (Nat.ne_of_gt n43) (ninS (Nat.ne_of_gt n44) (ninS (Nat.ne_of_gt n45) nin0)))).ext E89).ext E110) (Nat.le_of_ble_eq_true rfl) rfl) ?_; rintro _ w120 ⟨rfl, W118, hB119⟩
  change Blk _ _ [(Fl r114), (Fl r116)] at hB119
  have X121 := Below.wr X113 W118 g46
  refine wpList_nil (hK87 _ _ ?_)
  refine wp_ret ?_
  refine ret_val (v := (.agg #[(Fl r114), (Fl r116)])) (res_C rfl (slot rfl) (run_loadAgg (cs := [(Fl r114), (Fl r116)]) Try.isAgg38 Try.sizeOf38 (Blk.cells hB119) rfl)) X121 ?_
  have x122 : cf .f32 r114 = (longR A_x_ A_y_ A_z_).lo := by first | with_reducible rfl | (simp only [longR, h2, h4, h6, h8, h10, h12, h75, h76, h80, h81, h85, h86, h115, h117]; done) | (simp [longR, h2, h4, h6, h8, h10, h12, h75, h76, h80, h81, h85, h86, h115, h117]; done) | rfl
  have x123 : cf .f32 r116 = (longR A_x_ A_y_ A_z_).hi := by first | with_reducible rfl | (simp only [longR, h2, h4, h6, h8, h10, h12, h75, h76, h80, h81, h85, h86, h115, h117]; done) | (simp [longR, h2, h4, h6, h8, h10, h12, h75, h76, h80, h81, h85, h86, h115, h117]; done) | rfl
  exact ⟨[(Fl r114), (Fl r116)], rfl, ⟨r114, r116, rfl, x122, x123⟩⟩

/- laws.sameFloat -/
theorem c_laws_sameFloat (x : Nat) (y : Nat) (w : World) : Gives Try.prog 45 #[(Fd x), (Fd y)] w (fun v w' => v = (Bo (sameF (cf .f64 x) (cf .f64 y)))) := by
  refine enter [(Fd x), (Fd y), Ud, Ud, Ud, Ud, Ud, Ud, Ud, Ud, Ud, Ud, Ud, Ud, Ud, Ud, Ud, Ud, Ud, Ud, Ud, Ud, Ud, Ud, Ud, Ud, Ud, Ud, Ud, Ud, Ud, Ud, Ud, Ud, Ud, Ud, Ud] Try.func45 rfl Try.ntmps45 rfl ?_
  refine wp_seq_k fun K1 hK1 => ?_
  refine wp_region_lit ?_
  refine q_is (l' := [(Fd x), (Fd y), Ud, Ud, (Bo false), Ud, Ud, Ud, Ud, Ud, Ud, Ud, Ud, Ud, Ud, Ud, Ud, Ud, Ud, Ud, Ud, Ud, Ud, Ud, Ud, Ud, Ud, Ud, Ud, Ud, Ud, Ud, Ud, Ud, Ud, Ud, Ud]) rfl rfl (does_assign (u := (Bo false)) (ev rfl)) rfl ?_
  refine wpList_nil (hK1 _ _ ?_)
  refine wp_seq_k fun K2 hK2 => ?_
  refine wp_seq_k fun K3 hK3 => ?_
  obtain ⟨β1, hβ1⟩ : ∃ b : Bool, b = (fcmp .neq (ford .f64 (cf .f64 x) (cf .f64 x))) := ⟨_, rfl⟩
  obtain ⟨β2, hβ2⟩ : ∃ b : Bool, b = (fcmp .neq (ford .f64 (cf .f64 y) (cf .f64 y))) := ⟨_, rfl⟩
  refine region_text (
    [Fact.pure [] (fun v => v = (Fd x)),
    Fact.pure [] (fun v => v = (Fd x)),
    Fact.pure [5, 6] (fun v => v = (Bo β1)),
    Fact.pure [7] (fun v => v = (Bo β1)),
    Fact.pure [8] (fun v => β1 = false → v = (Fd y)),
    Fact.pure [8] (fun v => β1 = false → v = (Fd y)),
    Fact.pure [9, 10, 8] (fun v => β1 = false → v = (Bo β2)),
    Fact.pure [8, 11] (fun v => v = (Bo (β1 || β2)))]) (by simp [Fact.pure, Fact.mem]) ?_
  refine RW_d (fun v4 => [(Fd x), (Fd y), Ud, Ud, (Bo false), v4, Ud, Ud, Ud, Ud, Ud, Ud, Ud, Ud, Ud, Ud, Ud, Ud, Ud, Ud, Ud, Ud, Ud, Ud, Ud, Ud, Ud, Ud, Ud, Ud, Ud, Ud, Ud, Ud, Ud, Ud, Ud]) rfl (fun _ => rfl) (fun u hu hF => ?_) (fun v4 => ?_)
  · clear hF
    refine doesG_un rfl ?_
    refine (does_move (u := (Fd x)) (ev rfl)).mono ?_; rintro _ _ ⟨rfl, rfl⟩
    exact ⟨rfl, Ext.refl _⟩
  refine RW_d (fun v5 => [(Fd x), (Fd y), Ud, Ud, (Bo false), v4, v5, Ud, Ud, Ud, Ud, Ud, Ud, Ud, Ud, Ud, Ud, Ud, Ud, Ud, Ud, Ud, Ud, Ud, Ud, Ud, Ud, Ud, Ud, Ud, Ud, Ud, Ud, Ud, Ud, Ud, Ud]) rfl (fun _ => rfl) (fun u hu hF => ?_) (fun v5 => ?_)
  · clear hF
    refine doesG_un rfl ?_
    refine (does_move (u := (Fd x)) (ev rfl)).mono ?_; rintro _ _ ⟨rfl, rfl⟩
    exact ⟨rfl, Ext.refl _⟩
  refine RW_d (fun v6 => [(Fd x), (Fd y), Ud, Ud, (Bo false), v4, v5, v6, Ud, Ud, Ud, Ud, Ud, Ud, Ud, Ud, Ud, Ud, Ud, Ud, Ud, Ud, Ud, Ud, Ud, Ud, Ud, Ud, Ud, Ud, Ud, Ud, Ud, Ud, Ud, Ud, Ud]) rfl (fun _ => rfl) (fun u hu hF => ?_) (fun v6 => ?_)
  · have h5_ : v4 = (Fd x) := hF.1
    have h6_ : v5 = (Fd x) := hF.2.1
    clear hF
    refine doesG_un rfl ?_
    obtain rfl := h5_
    obtain rfl := h6_
    refine (does_fcmp (.inr (.inl rfl)) (ev rfl) (ev rfl)).mono ?_; rintro _ _ ⟨rfl, rfl⟩
    exact ⟨(by first | rfl | (show _ = _; simp only [hβ1])), Ext.refl _⟩
  refine RW_d (fun v7 => [(Fd x), (Fd y), Ud, Ud, (Bo false), v4, v5, v6, v7, Ud, Ud, Ud, Ud, Ud, Ud, Ud, Ud, Ud, Ud, Ud, Ud, Ud, Ud, Ud, Ud, Ud, Ud, Ud, Ud, Ud, Ud, Ud, Ud, Ud, Ud, Ud, Ud]) rfl (fun _ => rfl) (fun u hu hF => ?_) (fun v7 => ?_)
  · have h7_ : v6 = (Bo β1) := hF.1
    clear hF
    refine doesG_un rfl ?_
    obtain rfl := h7_
    refine (does_move (u := (Bo β1)) (ev rfl)).mono ?_; rintro _ _ ⟨rfl, rfl⟩
    exact ⟨rfl, Ext.refl _⟩
  refine RW_d (fun v8 => [(Fd x), (Fd y), Ud, Ud, (Bo false), v4, v5, v6, v7, v8, Ud, Ud, Ud, Ud, Ud, Ud, Ud, Ud, Ud, Ud, Ud, Ud, Ud, Ud, Ud, Ud, Ud, Ud, Ud, Ud, Ud, Ud, Ud, Ud, Ud, Ud, Ud]) rfl (fun _ => rfl) (fun u hu hF => ?_) (fun v8 => ?_)
  · have h8_ : v7 = (Bo β1) := hF.1
    clear hF
    obtain rfl := h8_
    refine doesG_g (b := β1) rfl (yld rfl rfl) (fun hg1 => ?_) (fun hc => ⟨fun hg1 => absurd hg1 hc, Ext.refl _⟩)
    refine (does_move (u := (Fd y)) (ev rfl)).mono ?_; rintro _ _ ⟨rfl, rfl⟩
    exact ⟨fun _ => rfl, Ext.refl _⟩
  refine RW_d (fun v9 => [(Fd x), (Fd y), Ud, Ud, (Bo false), v4, v5, v6, v7, v8, v9, Ud, Ud, Ud, Ud, Ud, Ud, Ud, Ud, Ud, Ud, Ud, Ud, Ud, Ud, Ud, Ud, Ud, Ud, Ud, Ud, Ud, Ud, Ud, Ud, Ud, Ud]) rfl (fun _ => rfl) (fun u hu hF => ?_) (fun v9 => ?_)
  · have h8_ : v7 = (Bo β1) := hF.1
    clear hF
    obtain rfl := h8_
    refine doesG_g (b := β1) rfl (yld rfl rfl) (fun hg1 => ?_) (fun hc => ⟨fun hg1 => absurd hg1 hc, Ext.refl _⟩)
    refine (does_move (u := (Fd y)) (ev rfl)).mono ?_; rintro _ _ ⟨rfl, rfl⟩
    exact ⟨fun _ => rfl, Ext.refl _⟩
  refine RW_d (fun v10 => [(Fd x), (Fd y), Ud, Ud, (Bo false), v4, v5, v6, v7, v8, v9, v10, Ud, Ud, Ud, Ud, Ud, Ud, Ud, Ud, Ud, Ud, Ud, Ud, Ud, Ud, Ud, Ud, Ud, Ud, Ud, Ud, Ud, Ud, Ud, Ud, Ud]) rfl (fun _ => rfl) (fun u hu hF => ?_) (fun v10 => ?_)
  · have h9_ : β1 = false → v8 = (Fd y) := hF.1
    have h10_ : β1 = false → v9 = (Fd y) := hF.2.1
    have h8_ : v7 = (Bo β1) := hF.2.2.1
    clear hF
    obtain rfl := h8_
    refine doesG_g (b := β1) rfl (yld rfl rfl) (fun hg1 => ?_) (fun hc => ⟨fun hg1 => absurd hg1 hc, Ext.refl _⟩)
    obtain rfl := h9_ hg1
    obtain rfl := h10_ hg1
    refine (does_fcmp (.inr (.inl rfl)) (ev rfl) (ev rfl)).mono ?_; rintro _ _ ⟨rfl, rfl⟩
    exact ⟨fun _ => (by first | rfl | (show _ = _; simp only [hβ2])), Ext.refl _⟩
  refine RW_d (fun v11 => [(Fd x), (Fd y), Ud, Ud, (Bo false), v4, v5, v6, v7, v8, v9, v10, v11, Ud, Ud, Ud, Ud, Ud, Ud, Ud, Ud, Ud, Ud, Ud, Ud, Ud, Ud, Ud, Ud, Ud, Ud, Ud, Ud, Ud, Ud, Ud, Ud]) rfl (fun _ => rfl) (fun u hu hF => ?_) (fun v11 => ?_)
  · have h8_ : v7 = (Bo β1) := hF.1
    have h11_ : β1 = false → v10 = (Bo β2) := hF.2.1
    clear hF
    refine doesG_un rfl ?_
    skip
    obtain rfl := h8_
    refine (does_pick (b := β1) (ev rfl) (ev rfl) (ev rfl)).mono ?_; rintro _ _ ⟨rfl, rfl⟩; refine ⟨?_, Ext.refl _⟩; skip
    cases hbb : β1 <;> simp [hbb] at h11_ ⊢
    all_goals (first | rfl | (subst h11_; rfl) | simp_all)
  refine RW_fin ?_; intro w12 E13 hP14
  obtain ⟨⟨⟨⟨⟨⟨⟨⟨-, -⟩, -⟩, -⟩, -⟩, -⟩, -⟩, -⟩, q15⟩ := hP14
  have X16 := Ext.gr (Ext.refl w) E13
  have q15 : v11 = (Bo (β1 || β2)) := q15
  obtain rfl := q15
  show wpList _ _ _ _ (fr [(Fd x), (Fd y), Ud, Ud, (Bo false), v4, v5, v6, v7, v8, v9, v10, (Bo (β1 || β2)), Ud, Ud, Ud, Ud, Ud, Ud, Ud, Ud, Ud, Ud, Ud, Ud, Ud, Ud, Ud, Ud, Ud, Ud, Ud, Ud, Ud, Ud, Ud, Ud]) _
  refine wpList_nil (hK3 _ _ ?_)
  refine wp_cond_split (t := β1 || β2) (ev rfl) (fun c17 => ?_) (fun c17 => ?_)
  · have c17' := c17
    (try simp only [hβ1, hβ2] at c17')
    (try simp only [icmp, Bool.and_eq_true, Bool.or_eq_true, Bool.and_eq_false_iff, Bool.or_eq_false_iff, Bool.not_eq_true', Bool.not_eq_false', decide_eq_true_eq, decide_eq_false_iff_not, beq_iff_eq, bne_iff_ne, beq_eq_false_iff_ne, bne_eq_false_iff_eq] at c17')
    refine wp_seq_k fun K18 hK18 => ?_
    obtain ⟨β3, hβ3⟩ : ∃ b : Bool, b = (fcmp .neq (ford .f64 (cf .f64 x) (cf .f64 x))) := ⟨_, rfl⟩
    obtain ⟨β4, hβ4⟩ : ∃ b : Bool, b = (fcmp .neq (ford .f64 (cf .f64 y) (cf .f64 y))) := ⟨_, rfl⟩
    refine region_text (
      [Fact.pure [] (fun v => v = (Fd x)),
    Fact.pure [] (fun v => v = (Fd x)),
    Fact.pure [13, 14] (fun v => v = (Bo β3)),
    Fact.pure [15] (fun v => v = (Bo β3)),
    Fact.pure [16] (fun v => β3 = true → v = (Fd y)),
    Fact.pure [16] (fun v => β3 = true → v = (Fd y)),
    Fact.pure [17, 18, 16] (fun v => β3 = true → v = (Bo β4)),
    Fact.pure [16, 19] (fun v => v = (Bo (β3 && β4)))]) (by simp [Fact.pure, Fact.mem]) ?_
    refine RW_d (fun v19 => [(Fd x), (Fd y), Ud, Ud, (Bo false), v4, v5, v6, v7, v8, v9, v10, (Bo (β1 || β2)), v19, Ud, Ud, Ud, Ud, Ud, Ud, Ud, Ud, Ud, Ud, Ud, Ud, Ud, Ud, Ud, Ud, Ud, Ud, Ud, Ud, Ud, Ud, Ud]) rfl (fun _ => rfl) (fun u hu hF => ?_) (fun v19 => ?_)
    · clear hF
      refine doesG_un rfl ?_
      refine (does_move (u := (Fd x)) (ev rfl)).mono ?_; rintro _ _ ⟨rfl, rfl⟩
      exact ⟨rfl, Ext.refl _⟩
    refine RW_d (fun v20 => [(Fd x), (Fd y), Ud, Ud, (Bo false), v4, v5, v6, v7, v8, v9, v10, (Bo (β1 || β2)), v19, v20, Ud, Ud, Ud, Ud, Ud, Ud, Ud, Ud, Ud, Ud, Ud, Ud, Ud, Ud, Ud, Ud, Ud, Ud, Ud, Ud, Ud, Ud]) rfl (fun _ => rfl) (fun u hu hF => ?_) (fun v20 => ?_)
    · clear hF
      refine doesG_un rfl ?_
      refine (does_move (u := (Fd x)) (ev rfl)).mono ?_; rintro _ _ ⟨rfl, rfl⟩
      exact ⟨rfl, Ext.refl _⟩
    refine RW_d (fun v21 => [(Fd x), (Fd y), Ud, Ud, (Bo false), v4, v5, v6, v7, v8, v9, v10, (Bo (β1 || β2)), v19, v20, v21, Ud, Ud, Ud, Ud, Ud, Ud, Ud, Ud, Ud, Ud, Ud, Ud, Ud, Ud, Ud, Ud, Ud, Ud, Ud, Ud, Ud]) rfl (fun _ => rfl) (fun u hu hF => ?_) (fun v21 => ?_)
    · have h13_ : v19 = (Fd x) := hF.1
      have h14_ : v20 = (Fd x) := hF.2.1
      clear hF
      refine doesG_un rfl ?_
      obtain rfl := h13_
      obtain rfl := h14_
      refine (does_fcmp (.inr (.inl rfl)) (ev rfl) (ev rfl)).mono ?_; rintro _ _ ⟨rfl, rfl⟩
      exact ⟨(by first | rfl | (show _ = _; simp only [hβ3])), Ext.refl _⟩
    refine RW_d (fun v22 => [(Fd x), (Fd y), Ud, Ud, (Bo false), v4, v5, v6, v7, v8, v9, v10, (Bo (β1 || β2)), v19, v20, v21, v22, Ud, Ud, Ud, Ud, Ud, Ud, Ud, Ud, Ud, Ud, Ud, Ud, Ud, Ud, Ud, Ud, Ud, Ud, Ud, Ud]) rfl (fun _ => rfl) (fun u hu hF => ?_) (fun v22 => ?_)
    · have h15_ : v21 = (Bo β3) := hF.1
      clear hF
      refine doesG_un rfl ?_
      obtain rfl := h15_
      refine (does_move (u := (Bo β3)) (ev rfl)).mono ?_; rintro _ _ ⟨rfl, rfl⟩
      exact ⟨rfl, Ext.refl _⟩
    refine RW_d (fun v23 => [(Fd x), (Fd y), Ud, Ud, (Bo false), v4, v5, v6, v7, v8, v9, v10, (Bo (β1 || β2)), v19, v20, v21, v22, v23, Ud, Ud, Ud, Ud, Ud, Ud, Ud, Ud, Ud, Ud, Ud, Ud, Ud, Ud, Ud, Ud, Ud, Ud, Ud]) rfl (fun _ => rfl) (fun u hu hF => ?_) (fun v23 => ?_)
    · have h16_ : v22 = (Bo β3) := hF.1
      clear hF
      obtain rfl := h16_
      refine doesG_g (b := β3) rfl (yld rfl rfl) (fun hg1 => ?_) (fun hc => ⟨fun hg1 => absurd hg1 hc, Ext.refl _⟩)
      refine (does_move (u := (Fd y)) (ev rfl)).mono ?_; rintro _ _ ⟨rfl, rfl⟩
      exact ⟨fun _ => rfl, Ext.refl _⟩
    refine RW_d (fun v24 => [(Fd x), (Fd y), Ud, Ud, (Bo false), v4, v5, v6, v7, v8, v9, v10, (Bo (β1 || β2)), v19, v20, v21, v22, v23, v24, Ud, Ud, Ud, Ud, Ud, Ud, Ud, Ud, Ud, Ud, Ud, Ud, Ud, Ud, Ud, Ud, Ud, Ud]) rfl (fun _ => rfl) (fun u hu hF => ?_) (fun v24 => ?_)
    · have h16_ : v22 = (Bo β3) := hF.1
      clear hF
      obtain rfl := h16_
      refine doesG_g (b := β3) rfl (yld rfl rfl) (fun hg1 => ?_) (fun hc => ⟨fun hg1 => absurd hg1 hc, Ext.refl _⟩)
      refine (does_move (u := (Fd y)) (ev rfl)).mono ?_; rintro _ _ ⟨rfl, rfl⟩
      exact ⟨fun _ => rfl, Ext.refl _⟩
    refine RW_d (fun v25 => [(Fd x), (Fd y), Ud, Ud, (Bo false), v4, v5, v6, v7, v8, v9, v10, (Bo (β1 || β2)), v19, v20, v21, v22, v23, v24, v25, Ud, Ud, Ud, Ud, Ud, Ud, Ud, Ud, Ud, Ud, Ud, Ud, Ud, Ud, Ud, Ud, Ud]) rfl (fun _ => rfl) (fun u hu hF => ?_) (fun v25 => ?_)
    · have h17_ : β3 = true → v23 = (Fd y) := hF.1
      have h18_ : β3 = true → v24 = (Fd y) := hF.2.1
      have h16_ : v22 = (Bo β3) := hF.2.2.1
      clear hF
      obtain rfl := h16_
      refine doesG_g (b := β3) rfl (yld rfl rfl) (fun hg1 => ?_) (fun hc => ⟨fun hg1 => absurd hg1 hc, Ext.refl _⟩)
      obtain rfl := h17_ hg1
      obtain rfl := h18_ hg1
      refine (does_fcmp (.inr (.inl rfl)) (ev rfl) (ev rfl)).mono ?_; rintro _ _ ⟨rfl, rfl⟩
      exact ⟨fun _ => (by first | rfl | (show _ = _; simp only [hβ4])), Ext.refl _⟩
    refine RW_d (fun v26 => [(Fd x), (Fd y), Ud, Ud, (Bo false), v4, v5, v6, v7, v8, v9, v10, (Bo (β1 || β2)), v19, v20, v21, v22, v23, v24, v25, v26, Ud, Ud, Ud, Ud, Ud, Ud, Ud, Ud, Ud, Ud, Ud, Ud, Ud, Ud, Ud, Ud]) rfl (fun _ => rfl) (fun u hu hF => ?_) (fun v26 => ?_)
    · have h16_ : v22 = (Bo β3) := hF.1
      have h19_ : β3 = true → v25 = (Bo β4) := hF.2.1
      clear hF
      refine doesG_un rfl ?_
      skip
      obtain rfl := h16_
      refine (does_pick (b := β3) (ev rfl) (ev rfl) (ev rfl)).mono ?_; rintro _ _ ⟨rfl, rfl⟩; refine ⟨?_, Ext.refl _⟩; skip
      cases hbb : β3 <;> simp [hbb] at h19_ ⊢
      all_goals (first | rfl | (subst h19_; rfl) | simp_all)
    refine RW_fin ?_; intro w27 E28 hP29
    obtain ⟨⟨⟨⟨⟨⟨⟨⟨-, -⟩, -⟩, -⟩, -⟩, -⟩, -⟩, -⟩, q30⟩ := hP29
    have X31 := Ext.gr X16 E28
    have q30 : v26 = (Bo (β3 && β4)) := q30
    obtain rfl := q30
    show wpList _ _ _ _ (fr [(Fd x), (Fd y), Ud, Ud, (Bo false), v4, v5, v6, v7, v8, v9, v10, (Bo (β1 || β2)), v19, v20, v21, v22, v23, v24, v25, (Bo (β3 && β4)), Ud, Ud, Ud, Ud, Ud, Ud, Ud, Ud, Ud, Ud, Ud, Ud, Ud, Ud, Ud, Ud]) _
    refine q_is (l' := [(Fd x), (Fd y), Ud, Ud, (Bo (β3 && β4)), v4, v5, v6, v7, v8, v9, v10, (Bo (β1 || β2)), v19, v20, v21, v22, v23, v24, v25, (Bo (β3 && β4)), Ud, Ud, Ud, Ud, Ud, Ud, Ud, Ud, Ud, Ud, Ud, Ud, Ud, Ud, Ud, Ud]) rfl rfl (does_assign (u := (Bo (β3 && β4))) (ev rfl)) rfl ?_
    refine wpList_nil (hK18 _ _ ?_)
    refine wp_ret ?_
    dsimp only [Exit.then, Exit.inBlock]
    refine ret_val (v := (Bo (β3 && β4))) (res_T rfl (slot rfl)) X31 ?_
    try simp only [hβ1, hβ2, hβ3, hβ4] at c17
    have x32 : (sameF (cf .f64 x) (cf .f64 y)) = (β3 && β4) := by first | with_reducible rfl | (simp only [sameF, hβ1, hβ2, hβ3, hβ4, c17]; done) | (simp [sameF, hβ1, hβ2, hβ3, hβ4, c17]; done) | (revert c17; simp +contextual [sameF, hβ1, hβ2, hβ3, hβ4]; done) | (rcases c17' with hh | hh <;> simp only [hh, sameF, hβ1, hβ2, hβ3, hβ4, c17]; done) | (rcases c17' with hh | hh <;> simp_all [sameF]; done) | (rcases c17' with hh | hh | hh <;> simp_all [sameF]; done) | (rcases c17' with hh | hh | hh | hh <;> simp_all [sameF]; done) | (simp_all [sameF]; done) | rfl
    exact (by first | rfl | rw [x32])
  have c17' := c17
  (try simp only [hβ1, hβ2] at c17')
  (try simp only [icmp, Bool.and_eq_true, Bool.or_eq_true, Bool.and_eq_false_iff, Bool.or_eq_false_iff, Bool.not_eq_true', Bool.not_eq_false', decide_eq_true_eq, decide_eq_false_iff_not, beq_iff_eq, bne_iff_ne, beq_eq_false_iff_ne, bne_eq_false_iff_eq] at c17')
  refine wp_skip (hK2 _ _ ?_)
  refine wp_seq_k fun K33 hK33 => ?_
  refine wp_seq_k fun K34 hK34 => ?_
  obtain ⟨β5, hβ5⟩ : ∃ b : Bool, b = (fcmp .eql (ford .f64 (cf .f64 x) (cf .f64 0))) := ⟨_, rfl⟩
  obtain ⟨β6, hβ6⟩ : ∃ b : Bool, b = (fcmp .eql (ford .f64 (cf .f64 y) (cf .f64 0))) := ⟨_, rfl⟩
  refine region_text (
    [Fact.pure [] (fun v => v = (Fd x)),
    Fact.pure [21] (fun v => v = (Bo β5)),
    Fact.pure [22] (fun v => v = (Bo β5)),
    Fact.pure [23] (fun v => β5 = true → v = (Fd y)),
    Fact.pure [24, 23] (fun v => β5 = true → v = (Bo β6)),
    Fact.pure [23, 25] (fun v => v = (Bo (β5 && β6)))]) (by simp [Fact.pure, Fact.mem]) ?_
  refine RW_d (fun v35 => [(Fd x), (Fd y), Ud, Ud, (Bo false), v4, v5, v6, v7, v8, v9, v10, (Bo (β1 || β2)), Ud, Ud, Ud, Ud, Ud, Ud, Ud, Ud, v35, Ud, Ud, Ud, Ud, Ud, Ud, Ud, Ud, Ud, Ud, Ud, Ud, Ud, Ud, Ud]) rfl (fun _ => rfl) (fun u hu hF => ?_) (fun v35 => ?_)
  · clear hF
    refine doesG_un rfl ?_
    refine (does_move (u := (Fd x)) (ev rfl)).mono ?_; rintro _ _ ⟨rfl, rfl⟩
    exact ⟨rfl, Ext.refl _⟩
  refine RW_d (fun v36 => [(Fd x), (Fd y), Ud, Ud, (Bo false), v4, v5, v6, v7, v8, v9, v10, (Bo (β1 || β2)), Ud, Ud, Ud, Ud, Ud, Ud, Ud, Ud, v35, v36, Ud, Ud, Ud, Ud, Ud, Ud, Ud, Ud, Ud, Ud, Ud, Ud, Ud, Ud]) rfl (fun _ => rfl) (fun u hu hF => ?_) (fun v36 => ?_)
  · have h21_ : v35 = (Fd x) := hF.1
    clear hF
    refine doesG_un rfl ?_
    obtain rfl := h21_
    refine (does_fcmp (.inl rfl) (ev rfl) (ev rfl)).mono ?_; rintro _ _ ⟨rfl, rfl⟩
    exact ⟨(by first | rfl | (show _ = _; simp only [hβ5])), Ext.refl _⟩
  refine RW_d (fun v37 => [(Fd x), (Fd y), Ud, Ud, (Bo false), v4, v5, v6, v7, v8, v9, v10, (Bo (β1 || β2)), Ud, Ud, Ud, Ud, Ud, Ud, Ud, Ud, v35, v36, v37, Ud, Ud, Ud, Ud, Ud, Ud, Ud, Ud, Ud, Ud, Ud, Ud, Ud]) rfl (fun _ => rfl) (fun u hu hF => ?_) (fun v37 => ?_)
  · have h22_ : v36 = (Bo β5) := hF.1
    clear hF
    refine doesG_un rfl ?_
    obtain rfl := h22_
    refine (does_move (u := (Bo β5)) (ev rfl)).mono ?_; rintro _ _ ⟨rfl, rfl⟩
    exact ⟨rfl, Ext.refl _⟩
  refine RW_d (fun v38 => [(Fd x), (Fd y), Ud, Ud, (Bo false), v4, v5, v6, v7, v8, v9, v10, (Bo (β1 || β2)), Ud, Ud, Ud, Ud, Ud, Ud, Ud, Ud, v35, v36, v37, v38, Ud, Ud, Ud, Ud, Ud, Ud, Ud, Ud, Ud, Ud, Ud, Ud]) rfl (fun _ => rfl) (fun u hu hF => ?_) (fun v38 => ?_)
  · have h23_ : v37 = (Bo β5) := hF.1
    clear hF
    obtain rfl := h23_
    refine doesG_g (b := β5) rfl (yld rfl rfl) (fun hg1 => ?_) (fun hc => ⟨fun hg1 => absurd hg1 hc, Ext.refl _⟩)
    refine (does_move (u := (Fd y)) (ev rfl)).mono ?_; rintro _ _ ⟨rfl, rfl⟩
    exact ⟨fun _ => rfl, Ext.refl _⟩
  refine RW_d (fun v39 => [(Fd x), (Fd y), Ud, Ud, (Bo false), v4, v5, v6, v7, v8, v9, v10, (Bo (β1 || β2)), Ud, Ud, Ud, Ud, Ud, Ud, Ud, Ud, v35, v36, v37, v38, v39, Ud, Ud, Ud, Ud, Ud, Ud, Ud, Ud, Ud, Ud, Ud]) rfl (fun _ => rfl) (fun u hu hF => ?_) (fun v39 => ?_)
  · have h24_ : β5 = true → v38 = (Fd y) := hF.1
    have h23_ : v37 = (Bo β5) := hF.2.1
    clear hF
    obtain rfl := h23_
    refine doesG_g (b := β5) rfl (yld rfl rfl) (fun hg1 => ?_) (fun hc => ⟨fun hg1 => absurd hg1 hc, Ext.refl _⟩)
    obtain rfl := h24_ hg1
    refine (does_fcmp (.inl rfl) (ev rfl) (ev rfl)).mono ?_; rintro _ _ ⟨rfl, rfl⟩
    exact ⟨fun _ => (by first | rfl | (show _ = _; simp only [hβ6])), Ext.refl _⟩
  refine RW_d (fun v40 => [(Fd x), (Fd y), Ud, Ud, (Bo false), v4, v5, v6, v7, v8, v9, v10, (Bo (β1 || β2)), Ud, Ud, Ud, Ud, Ud, Ud, Ud, Ud, v35, v36, v37, v38, v39, v40, Ud, Ud, Ud, Ud, Ud, Ud, Ud, Ud, Ud, Ud]) rfl (fun _ => rfl) (fun u hu hF => ?_) (fun v40 => ?_)
  · have h23_ : v37 = (Bo β5) := hF.1
    have h25_ : β5 = true → v39 = (Bo β6) := hF.2.1
    clear hF
    refine doesG_un rfl ?_
    skip
    obtain rfl := h23_
    refine (does_pick (b := β5) (ev rfl) (ev rfl) (ev rfl)).mono ?_; rintro _ _ ⟨rfl, rfl⟩; refine ⟨?_, Ext.refl _⟩; skip
    cases hbb : β5 <;> simp [hbb] at h25_ ⊢
    all_goals (first | rfl | (subst h25_; rfl) | simp_all)
  refine RW_fin ?_; intro w41 E42 hP43
  obtain ⟨⟨⟨⟨⟨⟨-, -⟩, -⟩, -⟩, -⟩, -⟩, q44⟩ := hP43
  have X45 := Ext.gr X16 E42
  have q44 : v40 = (Bo (β5 && β6)) := q44
  obtain rfl := q44
  show wpList _ _ _ _ (fr [(Fd x), (Fd y), Ud, Ud, (Bo false), v4, v5, v6, v7, v8, v9, v10, (Bo (β1 || β2)), Ud, Ud, Ud, Ud, Ud, Ud, Ud, Ud, v35, v36, v37, v38, v39, (Bo (β5 && β6)), Ud, Ud, Ud, Ud, Ud, Ud, Ud, Ud, Ud, Ud]) _
  refine wpList_nil (hK34 _ _ ?_)
  refine wp_cond_split (t := β5 && β6) (ev rfl) (fun c46 => ?_) (fun c46 => ?_)
  · have c46' := c46
    (try simp only [hβ1, hβ2, hβ5, hβ6] at c46')
    (try simp only [icmp, Bool.and_eq_true, Bool.or_eq_true, Bool.and_eq_false_iff, Bool.or_eq_false_iff, Bool.not_eq_true', Bool.not_eq_false', decide_eq_true_eq, decide_eq_false_iff_not, beq_iff_eq, bne_iff_ne, beq_eq_false_iff_ne, bne_eq_false_iff_eq] at c46')
    refine wp_seq_k fun K47 hK47 => ?_
    refine wp_region_lit ?_
    refine q_is (l' := [(Fd x), (Fd y), Ud, Ud, (Bo false), v4, v5, v6, v7, v8, v9, v10, (Bo (β1 || β2)), Ud, Ud, Ud, Ud, Ud, Ud, Ud, Ud, v35, v36, v37, v38, v39, (Bo (β5 && β6)), (Fd x), Ud, Ud, Ud, Ud, Ud, Ud, Ud, Ud, Ud]) rfl rfl (does_move (u := (Fd x)) (ev rfl)) rfl ?_
    refine seqd rfl rfl (does_float (.inr (.inr (.inr rfl))) (ev rfl) (ev rfl)) ?_; rintro _ w51 ⟨r48, rfl, h49, E50⟩
    have X52 := Ext.gr X45 E50
    show wpList _ _ _ _ (fr [(Fd x), (Fd y), Ud, Ud, (Bo false), v4, v5, v6, v7, v8, v9, v10, (Bo (β1 || β2)), Ud, Ud, Ud, Ud, Ud, Ud, Ud, Ud, v35, v36, v37, v38, v39, (Bo (β5 && β6)), (Fd x), (Fd r48), Ud, Ud, Ud, Ud, Ud, Ud, Ud, Ud]) _
    refine q_is (l' := [(Fd x), (Fd y), Ud, Ud, (Bo false), v4, v5, v6, v7, v8, v9, v10, (Bo (β1 || β2)), Ud, Ud, Ud, Ud, Ud, Ud, Ud, Ud, v35, v36, v37, v38, v39, (Bo (β5 && β6)), (Fd x), (Fd r48), (Bo (fcmp .gtr (ford .f64 (cf .f64 r48) (cf .f64 0)))), Ud, Ud, Ud, Ud, Ud, Ud, Ud]) rfl rfl (does_fcmp (.inr (.inr (.inr (.inr (.inl rfl))))) (ev rfl) (ev rfl)) rfl ?_
    refine q_is (l' := [(Fd x), (Fd y), Ud, Ud, (Bo false), v4, v5, v6, v7, v8, v9, v10, (Bo (β1 || β2)), Ud, Ud, Ud, Ud, Ud, Ud, Ud, Ud, v35, v36, v37, v38, v39, (Bo (β5 && β6)), (Fd x), (Fd r48), (Bo (fcmp .gtr (ford .f64 (cf .f64 r48) (cf .f64 0)))), (Fd y), Ud, Ud, Ud, Ud, Ud, Ud]) rfl rfl (does_move (u := (Fd y)) (ev rfl)) rfl ?_
    refine seqd rfl rfl (does_float (.inr (.inr (.inr rfl))) (ev rfl) (ev rfl)) ?_; rintro _ w56 ⟨r53, rfl, h54, E55⟩
    have X57 := Ext.gr X52 E55
    show wpList _ _ _ _ (fr [(Fd x), (Fd y), Ud, Ud, (Bo false), v4, v5, v6, v7, v8, v9, v10, (Bo (β1 || β2)), Ud, Ud, Ud, Ud, Ud, Ud, Ud, Ud, v35, v36, v37, v38, v39, (Bo (β5 && β6)), (Fd x), (Fd r48), (Bo (fcmp .gtr (ford .f64 (cf .f64 r48) (cf .f64 0)))), (Fd y), (Fd r53), Ud, Ud, Ud, Ud, Ud]) _
    refine q_is (l' := [(Fd x), (Fd y), Ud, Ud, (Bo false), v4, v5, v6, v7, v8, v9, v10, (Bo (β1 || β2)), Ud, Ud, Ud, Ud, Ud, Ud, Ud, Ud, v35, v36, v37, v38, v39, (Bo (β5 && β6)), (Fd x), (Fd r48), (Bo (fcmp .gtr (ford .f64 (cf .f64 r48) (cf .f64 0)))), (Fd y), (Fd r53), (Bo (fcmp .gtr (ford .f64 (cf .f64 r53) (cf .f64 0)))), Ud, Ud, Ud, Ud]) rfl rfl (does_fcmp (.inr (.inr (.inr (.inr (.inl rfl))))) (ev rfl) (ev rfl)) rfl ?_
    refine q_is (l' := [(Fd x), (Fd y), Ud, Ud, (Bo false), v4, v5, v6, v7, v8, v9, v10, (Bo (β1 || β2)), Ud, Ud, Ud, Ud, Ud, Ud, Ud, Ud, v35, v36, v37, v38, v39, (Bo (β5 && β6)), (Fd x), (Fd r48), (Bo (fcmp .gtr (ford .f64 (cf .f64 r48) (cf .f64 0)))), (Fd y), (Fd r53), (Bo (fcmp .gtr (ford .f64 (cf .f64 r53) (cf .f64 0)))), (Bo ((fcmp .gtr (ford .f64 (cf .f64 r48) (cf .f64 0))) == (fcmp .gtr (ford .f64 (cf .f64 r53) (cf .f64 0))))), Ud, Ud, Ud]) rfl rfl (does_beq (p := (fcmp .gtr (ford .f64 (cf .f64 r48) (cf .f64 0)))) (q := (fcmp .gtr (ford .f64 (cf .f64 r53) (cf .f64 0)))) Try.underlying4 (ev rfl) (ev rfl)) rfl ?_
    refine q_is (l' := [(Fd x), (Fd y), Ud, Ud, (Bo ((fcmp .gtr (ford .f64 (cf .f64 r48) (cf .f64 0))) == (fcmp .gtr (ford .f64 (cf .f64 r53) (cf .f64 0))))), v4, v5, v6, v7, v8, v9, v10, (Bo (β1 || β2)), Ud, Ud, Ud, Ud, Ud, Ud, Ud, Ud, v35, v36, v37, v38, v39, (Bo (β5 && β6)), (Fd x), (Fd r48), (Bo (fcmp .gtr (ford .f64 (cf .f64 r48) (cf .f64 0)))), (Fd y), (Fd r53), (Bo (fcmp .gtr (ford .f64 (cf .f64 r53) (cf .f64 0)))), (Bo ((fcmp .gtr (ford .f64 (cf .f64 r48) (cf .f64 0))) == (fcmp .gtr (ford .f64 (cf .f64 r53) (cf .f64 0))))), Ud, Ud, Ud]) rfl rfl (does_assign (u := (Bo ((fcmp .gtr (ford .f64 (cf .f64 r48) (cf .f64 0))) == (fcmp .gtr (ford .f64 (cf .f64 r53) (cf .f64 0)))))) (ev rfl)) rfl ?_
    refine wpList_nil (hK47 _ _ ?_)
    refine wp_ret ?_
    dsimp only [Exit.then, Exit.inBlock]
    refine ret_val (v := (Bo ((fcmp .gtr (ford .f64 (cf .f64 r48) (cf .f64 0))) == (fcmp .gtr (ford .f64 (cf .f64 r53) (cf .f64 0)))))) (res_T rfl (slot rfl)) X57 ?_
    try simp only [hβ1, hβ2, hβ5, hβ6, h49, h54] at c17 c46
    have x58 : (sameF (cf .f64 x) (cf .f64 y)) = ((fcmp .gtr (ford .f64 (cf .f64 r48) (cf .f64 0))) == (fcmp .gtr (ford .f64 (cf .f64 r53) (cf .f64 0)))) := by first | with_reducible rfl | (simp only [sameF, hβ1, hβ2, hβ5, hβ6, h49, h54, c17, c46]; done) | (simp [sameF, hβ1, hβ2, hβ5, hβ6, h49, h54, c17, c46]; done) | (revert c17 c46; simp +contextual [sameF, hβ1, hβ2, hβ5, hβ6, h49, h54]; done) | (rcases c17' with hh | hh <;> simp only [hh, sameF, hβ1, hβ2, hβ5, hβ6, h49, h54, c17, c46]; done) | (rcases c46' with hh | hh <;> simp only [hh, sameF, hβ1, hβ2, hβ5, hβ6, h49, h54, c17, c46]; done) | (rcases c46' with hh | hh <;> simp_all [sameF]; done) | (rcases c46' with hh | hh | hh <;> simp_all [sameF]; done) | (rcases c46' with hh | hh | hh | hh <;> simp_all [sameF]; done) | (simp_all [sameF]; done) | rfl
    exact (by first | rfl | rw [x58])
  have c46' := c46
  (try simp only [hβ1, hβ2, hβ5, hβ6] at c46')
  (try simp only [icmp, Bool.and_eq_true, Bool.or_eq_true, Bool.and_eq_false_iff, Bool.or_eq_false_iff, Bool.not_eq_true', Bool.not_eq_false', decide_eq_true_eq, decide_eq_false_iff_not, beq_iff_eq, bne_iff_ne, beq_eq_false_iff_ne, bne_eq_false_iff_eq] at c46')
  refine wp_skip (hK33 _ _ ?_)
  refine wp_seq_k fun K59 hK59 => ?_
  refine wp_region_lit ?_
  refine q_is (l' := [(Fd x), (Fd y), Ud, Ud, (Bo false), v4, v5, v6, v7, v8, v9, v10, (Bo (β1 || β2)), Ud, Ud, Ud, Ud, Ud, Ud, Ud, Ud, v35, v36, v37, v38, v39, (Bo (β5 && β6)), Ud, Ud, Ud, Ud, Ud, Ud, Ud, (Fd x), Ud, Ud]) rfl rfl (does_move (u := (Fd x)) (ev rfl)) rfl ?_
  refine q_is (l' := [(Fd x), (Fd y), Ud, Ud, (Bo false), v4, v5, v6, v7, v8, v9, v10, (Bo (β1 || β2)), Ud, Ud, Ud, Ud, Ud, Ud, Ud, Ud, v35, v36, v37, v38, v39, (Bo (β5 && β6)), Ud, Ud, Ud, Ud, Ud, Ud, Ud, (Fd x), (Fd y), Ud]) rfl rfl (does_move (u := (Fd y)) (ev rfl)) rfl ?_
  refine q_is (l' := [(Fd x), (Fd y), Ud, Ud, (Bo false), v4, v5, v6, v7, v8, v9, v10, (Bo (β1 || β2)), Ud, Ud, Ud, Ud, Ud, Ud, Ud, Ud, v35, v36, v37, v38, v39, (Bo (β5 && β6)), Ud, Ud, Ud, Ud, Ud, Ud, Ud, (Fd x), (Fd y), (Bo (fcmp .eql (ford .f64 (cf .f64 x) (cf .f64 y))))]) rfl rfl (does_fcmp (.inl rfl) (ev rfl) (ev rfl)) rfl ?_
  refine q_is (l' := [(Fd x), (Fd y), Ud, Ud, (Bo (fcmp .eql (ford .f64 (cf .f64 x) (cf .f64 y)))), v4, v5, v6, v7, v8, v9, v10, (Bo (β1 || β2)), Ud, Ud, Ud, Ud, Ud, Ud, Ud, Ud, v35, v36, v37, v38, v39, (Bo (β5 && β6)), Ud, Ud, Ud, Ud, Ud, Ud, Ud, (Fd x), (Fd y), (Bo (fcmp .eql (ford .f64 (cf .f64 x) (cf .f64 y))))]) rfl rfl (does_assign (u := (Bo (fcmp .eql (ford .f64 (cf .f64 x) (cf .f64 y))))) (ev rfl)) rfl ?_
  refine wpList_nil (hK59 _ _ ?_)
  refine wp_ret ?_
  refine ret_val (v := (Bo (fcmp .eql (ford .f64 (cf .f64 x) (cf .f64 y))))) (res_T rfl (slot rfl)) X45 ?_
  try simp only [hβ1, hβ2, hβ5, hβ6] at c17 c46
  have x60 : (sameF (cf .f64 x) (cf .f64 y)) = (fcmp .eql (ford .f64 (cf .f64 x) (cf .f64 y))) := by first | with_reducible rfl | (simp only [sameF, hβ1, hβ2, hβ5, hβ6, c17, c46]; done) | (simp [sameF, hβ1, hβ2, hβ5, hβ6, c17, c46]; done) | (revert c17 c46; simp +contextual [sameF, hβ1, hβ2, hβ5, hβ6]; done) | (rcases c17' with hh | hh <;> simp only [hh, sameF, hβ1, hβ2, hβ5, hβ6, c17, c46]; done) | (rcases c46' with hh | hh <;> simp only [hh, sameF, hβ1, hβ2, hβ5, hβ6, c17, c46]; done) | (rcases c46' with hh | hh <;> simp_all [sameF]; done) | (rcases c46' with hh | hh | hh <;> simp_all [sameF]; done) | (rcases c46' with hh | hh | hh | hh <;> simp_all [sameF]; done) | (simp_all [sameF]; done) | rfl
  exact (by first | rfl | rw [x60])

/- laws.eqRange -/
theorem c_laws_eqRange (r : List Value) (A_r : Rg) (q : List Value) (A_q : Rg) (w : World) (hv_r : RRg w A_r r) (hv_q : RRg w A_q q) : Gives Try.prog 22 #[(.agg r.toArray), (.agg q.toArray)] w (fun v w' => v = (Bo (sameR A_r A_q))) := by
  obtain ⟨r1, r3, rfl, h2, h4⟩ := hv_r
  obtain ⟨r5, r7, rfl, h6, h8⟩ := hv_q
  refine enter [(.agg #[(Fl r1), (Fl r3)]), (.agg #[(Fl r5), (Fl r7)]), Ud, Ud, Ud, Ud, Ud, Ud, Ud, Ud, Ud, Ud, Ud, Ud, Ud, Ud, Ud, Ud, Ud, Ud, Ud] Try.func22 rfl Try.ntmps22 rfl ?_
  refine wp_seq_k fun K9 hK9 => ?_
  refine wp_region_lit ?_
  refine seqd rfl rfl (does_box (u := (.agg #[(Fl r1), (Fl r3)])) (ev rfl)) ?_; rintro _ w14 ⟨b10, rfl, hb11, hB12, E13⟩
  have g15 : w.heap.size ≤ b10 := Nat.le_trans (Below.size (Ext.refl w)) hb11
  change Blk _ _ [(Fl r1), (Fl r3)] at hB12
  have X16 := Ext.gr (Ext.refl w) E13
  show wpList _ _ _ _ (fr [(.agg #[(Fl r1), (Fl r3)]), (.agg #[(Fl r5), (Fl r7)]), (Pt b10 0), Ud, Ud, Ud, Ud, Ud, Ud, Ud, Ud, Ud, Ud, Ud, Ud, Ud, Ud, Ud, Ud, Ud, Ud]) _
  refine seqd rfl rfl (does_box (u := (.agg #[(Fl r5), (Fl r7)])) (ev rfl)) ?_; rintro _ w21 ⟨b17, rfl, hb18, hB19, E20⟩
  have n22 : b10 < b17 := Nat.lt_of_lt_of_le (Blk.lt hB12) hb18
  have g23 : w.heap.size ≤ b17 := Nat.le_trans (Below.size X16) hb18
  change Blk _ _ [(Fl r5), (Fl r7)] at hB19
  have X24 := Ext.gr X16 E20
  show wpList _ _ _ _ (fr [(.agg #[(Fl r1), (Fl r3)]), (.agg #[(Fl r5), (Fl r7)]), (Pt b10 0), (Pt b17 0), Ud, Ud, Ud, Ud, Ud, Ud, Ud, Ud, Ud, Ud, Ud, Ud, Ud, Ud, Ud, Ud, Ud]) _
  refine q_is (l' := [(.agg #[(Fl r1), (Fl r3)]), (.agg #[(Fl r5), (Fl r7)]), (Pt b10 0), (Pt b17 0), (Bo false), Ud, Ud, Ud, Ud, Ud, Ud, Ud, Ud, Ud, Ud, Ud, Ud, Ud, Ud, Ud, Ud]) rfl rfl (does_assign (u := (Bo false)) (ev rfl)) rfl ?_
  refine wpList_nil (hK9 _ _ ?_)
  refine wp_seq_k fun K25 hK25 => ?_
  refine wp_seq_k fun K26 hK26 => ?_
  refine wp_region_lit ?_
  refine q_is (l' := [(.agg #[(Fl r1), (Fl r3)]), (.agg #[(Fl r5), (Fl r7)]), (Pt b10 0), (Pt b17 0), (Bo false), (Pt b10 0), Ud, Ud, Ud, Ud, Ud, Ud, Ud, Ud, Ud, Ud, Ud, Ud, Ud, Ud, Ud]) rfl rfl (does_fieldAddr (ev rfl) fa38_0) rfl ?_
  refine q_is (l' := [(.agg #[(Fl r1), (Fl r3)]), (.agg #[(Fl r5), (Fl r7)]), (Pt b10 0), (Pt b17 0), (Bo false), (Pt b10 0), (Fl r1), Ud, Ud, Ud, Ud, Ud, Ud, Ud, Ud, Ud, Ud, Ud, Ud, Ud, Ud]) rfl rfl (does_load (u := (Fl r1)) (ev rfl) Try.isAgg24 (Cells.at (Blk.cells (hB12.ext E20)) 0 rfl)) rfl ?_
  refine seqd rfl rfl (does_widen Try.underlying24 Try.underlying80 (ev rfl)) ?_; rintro _ w30 ⟨r27, rfl, h28, E29⟩
  have X31 := Ext.gr X24 E29
  show wpList _ _ _ _ (fr [(.agg #[(Fl r1), (Fl r3)]), (.agg #[(Fl r5), (Fl r7)]), (Pt b10 0), (Pt b17 0), (Bo false), (Pt b10 0), (Fl r1), (Fd r27), Ud, Ud, Ud, Ud, Ud, Ud, Ud, Ud, Ud, Ud, Ud, Ud, Ud]) _
  refine q_is (l' := [(.agg #[(Fl r1), (Fl r3)]), (.agg #[(Fl r5), (Fl r7)]), (Pt b10 0), (Pt b17 0), (Bo false), (Pt b10 0), (Fl r1), (Fd r27), (Pt b17 0), Ud, Ud, Ud, Ud, Ud, Ud, Ud, Ud, Ud, Ud, Ud, Ud]) rfl rfl (does_fieldAddr (ev rfl) fa38_0) rfl ?_
  refine q_is (l' := [(.agg #[(Fl r1), (Fl r3)]), (.agg #[(Fl r5), (Fl r7)]), (Pt b10 0), (Pt b17 0), (Bo false), (Pt b10 0), (Fl r1), (Fd r27), (Pt b17 0), (Fl r5), Ud, Ud, Ud, Ud, Ud, Ud, Ud, Ud, Ud, Ud, Ud]) rfl rfl (does_load (u := (Fl r5)) (ev rfl) Try.isAgg24 (Cells.at (Blk.cells (hB19.ext E29)) 0 rfl)) rfl ?_
  refine seqd rfl rfl (does_widen Try.underlying24 Try.underlying80 (ev rfl)) ?_; rintro _ w35 ⟨r32, rfl, h33, E34⟩
  have X36 := Ext.gr X31 E34
  show wpList _ _ _ _ (fr [(.agg #[(Fl r1), (Fl r3)]), (.agg #[(Fl r5), (Fl r7)]), (Pt b10 0), (Pt b17 0), (Bo false), (Pt b10 0), (Fl r1), (Fd r27), (Pt b17 0), (Fl r5), (Fd r32), Ud, Ud, Ud, Ud, Ud, Ud, Ud, Ud, Ud, Ud]) _
  refine seqd rfl rfl (does_call (args := #[(Fd r27), (Fd r32)]) cal45 (evs rfl) (c_laws_sameFloat r27 r32 _)) ?_; rintro _ w38 ⟨E37, rfl⟩
  have X39 := Ext.gr X36 E37
  show wpList _ _ _ _ (fr [(.agg #[(Fl r1), (Fl r3)]), (.agg #[(Fl r5), (Fl r7)]), (Pt b10 0), (Pt b17 0), (Bo false), (Pt b10 0), (Fl r1), (Fd r27), (Pt b17 0), (Fl r5), (Fd r32), (Bo (sameF (cf .f64 r27) (cf .f64 r32))), Ud, Ud, Ud, Ud, Ud, Ud, Ud, Ud, Ud]) _
  refine q_is (l' := [(.agg #[(Fl r1), (Fl r3)]), (.agg #[(Fl r5), (Fl r7)]), (Pt b10 0), (Pt b17 0), (Bo false), (Pt b10 0), (Fl r1), (Fd r27), (Pt b17 0), (Fl r5), (Fd r32), (Bo (sameF (cf .f64 r27) (cf .f64 r32))), (Bo (!(sameF (cf .f64 r27) (cf .f64 r32)))), Ud, Ud, Ud, Ud, Ud, Ud, Ud, Ud]) rfl rfl (does_not (ev rfl)) rfl ?_
  refine wpList_nil (hK26 _ _ ?_)
  refine wp_cond_split (t := !(sameF (cf .f64 r27) (cf .f64 r32))) (ev rfl) (fun c40 => ?_) (fun c40 => ?_)
  · rw [Bool.not_eq_true'] at c40
    have c40' := c40
    refine wp_seq_k fun K41 hK41 => ?_
    refine wp_region_lit ?_
    refine q_is (l' := [(.agg #[(Fl r1), (Fl r3)]), (.agg #[(Fl r5), (Fl r7)]), (Pt b10 0), (Pt b17 0), (Bo false), (Pt b10 0), (Fl r1), (Fd r27), (Pt b17 0), (Fl r5), (Fd r32), (Bo (sameF (cf .f64 r27) (cf .f64 r32))), (Bo (!(sameF (cf .f64 r27) (cf .f64 r32)))), Ud, Ud, Ud, Ud, Ud, Ud, Ud, Ud]) rfl rfl (does_assign (u := (Bo false)) (ev rfl)) rfl ?_
    refine wpList_nil (hK41 _ _ ?_)
    refine wp_ret ?_
    dsimp only [Exit.then, Exit.inBlock]
    refine ret_val (v := (Bo false)) (res_T rfl (slot rfl)) X39 ?_
    try simp only [h2, h4, h6, h8, h28, h33] at c40
    have x42 : (sameR A_r A_q) = false := by first | with_reducible rfl | (simp only [sameR, h2, h4, h6, h8, h28, h33, c40]; done) | (simp [sameR, h2, h4, h6, h8, h28, h33, c40]; done) | (revert c40; simp +contextual [sameR, h2, h4, h6, h8, h28, h33]; done) | (rcases c40' with hh | hh <;> simp only [hh, sameR, h2, h4, h6, h8, h28, h33, c40]; done) | (rcases c40' with hh | hh <;> simp_all [sameR]; done) | (rcases c40' with hh | hh | hh <;> simp_all [sameR]; done) | (rcases c40' with hh | hh | hh | hh <;> simp_all [sameR]; done) | (simp_all [sameR]; done) | rfl
    exact (by first | rfl | rw [x42])
  rw [Bool.not_eq_false'] at c40
  have c40' := c40
  refine wp_skip (hK25 _ _ ?_)
  refine wp_seq_k fun K43 hK43 => ?_
  refine wp_seq_k fun K44 hK44 => ?_
  refine wp_region_lit ?_
  refine q_is (l' := [(.agg #[(Fl r1), (Fl r3)]), (.agg #[(Fl r5), (Fl r7)]), (Pt b10 0), (Pt b17 0), (Bo false), (Pt b10 0), (Fl r1), (Fd r27), (Pt b17 0), (Fl r5), (Fd r32), (Bo (sameF (cf .f64 r27) (cf .f64 r32))), (Bo (!(sameF (cf .f64 r27) (cf .f64 r32)))), (Pt b10 1), Ud, Ud, Ud, Ud, Ud, Ud, Ud]) rfl rfl (does_fieldAddr (ev rfl) fa38_1) rfl ?_
  refine q_is (l' := [(.agg #[(Fl r1), (Fl r3)]), (.agg #[(Fl r5), (Fl r7)]), (Pt b10 0), (Pt b17 0), (Bo false), (Pt b10 0), (Fl r1), (Fd r27), (Pt b17 0), (Fl r5), (Fd r32), (Bo (sameF (cf .f64 r27) (cf .f64 r32))), (Bo (!(sameF (cf .f64 r27) (cf .f64 r32)))), (Pt b10 1), (Fl r3), Ud, Ud, Ud, Ud, Ud, Ud]) rfl rfl (does_load (u := (Fl r3)) (ev rfl) Try.isAgg24 (Cells.at (Blk.cells ((((hB12.ext E20).ext E29).ext E34).ext E37)) 1 rfl)) rfl ?_
  refine seqd rfl rfl (does_widen Try.underlying24 Try.underlying80 (ev rfl)) ?_; rintro _ w48 ⟨r45, rfl, h46, E47⟩
  have X49 := Ext.gr X39 E47
  show wpList _ _ _ _ (fr [(.agg #[(Fl r1), (Fl r3)]), (.agg #[(Fl r5), (Fl r7)]), (Pt b10 0), (Pt b17 0), (Bo false), (Pt b10 0), (Fl r1), (Fd r27), (Pt b17 0), (Fl r5), (Fd r32), (Bo (sameF (cf .f64 r27) (cf .f64 r32))), (Bo (!(sameF (cf .f64 r27) (cf .f64 r32)))), (Pt b10 1), (Fl r3), (Fd r45), Ud, Ud, Ud, Ud, Ud]) _
  refine q_is (l' := [(.agg #[(Fl r1), (Fl r3)]), (.agg #[(Fl r5), (Fl r7)]), (Pt b10 0), (Pt b17 0), (Bo false), (Pt b10 0), (Fl r1), (Fd r27), (Pt b17 0), (Fl r5), (Fd r32), (Bo (sameF (cf .f64 r27) (cf .f64 r32))), (Bo (!(sameF (cf .f64 r27) (cf .f64 r32)))), (Pt b10 1), (Fl r3), (Fd r45), (Pt b17 1), Ud, Ud, Ud, Ud]) rfl rfl (does_fieldAddr (ev rfl) fa38_1) rfl ?_
  refine q_is (l' := [(.agg #[(Fl r1), (Fl r3)]), (.agg #[(Fl r5), (Fl r7)]), (Pt b10 0), (Pt b17 0), (Bo false), (Pt b10 0), (Fl r1), (Fd r27), (Pt b17 0), (Fl r5), (Fd r32), (Bo (sameF (cf .f64 r27) (cf .f64 r32))), (Bo (!(sameF (cf .f64 r27) (cf .f64 r32)))), (Pt b10 1), (Fl r3), (Fd r45), (Pt b17 1), (Fl r7), Ud, Ud, Ud]) rfl rfl (does_load (u := (Fl r7)) (ev rfl) Try.isAgg24 (Cells.at (Blk.cells ((((hB19.ext E29).ext E34).ext E37).ext E47)) 1 rfl)) rfl ?_
  refine seqd rfl rfl (does_widen Try.underlying24 Try.underlying80 (ev rfl)) ?_; rintro _ w53 ⟨r50, rfl, h51, E52⟩
  have X54 := Ext.gr X49 E52
  show wpList _ _ _ _ (fr [(.agg #[(Fl r1), (Fl r3)]), (.agg #[(Fl r5), (Fl r7)]), (Pt b10 0), (Pt b17 0), (Bo false), (Pt b10 0), (Fl r1), (Fd r27), (Pt b17 0), (Fl r5), (Fd r32), (Bo (sameF (cf .f64 r27) (cf .f64 r32))), (Bo (!(sameF (cf .f64 r27) (cf .f64 r32)))), (Pt b10 1), (Fl r3), (Fd r45), (Pt b17 1), (Fl r7), (Fd r50), Ud, Ud]) _
  refine seqd rfl rfl (does_call (args := #[(Fd r45), (Fd r50)]) cal45 (evs rfl) (c_laws_sameFloat r45 r50 _)) ?_; rintro _ w56 ⟨E55, rfl⟩
  have X57 := Ext.gr X54 E55
  show wpList _ _ _ _ (fr [(.agg #[(Fl r1), (Fl r3)]), (.agg #[(Fl r5), (Fl r7)]), (Pt b10 0), (Pt b17 0), (Bo false), (Pt b10 0), (Fl r1), (Fd r27), (Pt b17 0), (Fl r5), (Fd r32), (Bo (sameF (cf .f64 r27) (cf .f64 r32))), (Bo (!(sameF (cf .f64 r27) (cf .f64 r32)))), (Pt b10 1), (Fl r3), (Fd r45), (Pt b17 1), (Fl r7), (Fd r50), (Bo (sameF (cf .f64 r45) (cf .f64 r50))), Ud]) _
  refine q_is (l' := [(.agg #[(Fl r1), (Fl r3)]), (.agg #[(Fl r5), (Fl r7)]), (Pt b10 0), (Pt b17 0), (Bo false), (Pt b10 0), (Fl r1), (Fd r27), (Pt b17 0), (Fl r5), (Fd r32), (Bo (sameF (cf .f64 r27) (cf .f64 r32))), (Bo (!(sameF (cf .f64 r27) (cf .f64 r32)))), (Pt b10 1), (Fl r3), (Fd r45), (Pt b17 1), (Fl r7), (Fd r50), (Bo (sameF (cf .f64 r45) (cf .f64 r50))), (Bo (!(sameF (cf .f64 r45) (cf .f64 r50))))]) rfl rfl (does_not (ev rfl)) rfl ?_
  refine wpList_nil (hK44 _ _ ?_)
  refine wp_cond_split (t := !(sameF (cf .f64 r45) (cf .f64 r50))) (ev rfl) (fun c58 => ?_) (fun c58 => ?_)
  · rw [Bool.not_eq_true'] at c58
    have c58' := c58
    refine wp_seq_k fun K59 hK59 => ?_
    refine wp_region_lit ?_
    refine q_is (l' := [(.agg #[(Fl r1), (Fl r3)]), (.agg #[(Fl r5), (Fl r7)]), (Pt b10 0), (Pt b17 0), (Bo false), (Pt b10 0), (Fl r1), (Fd r27), (Pt b17 0), (Fl r5), (Fd r32), (Bo (sameF (cf .f64 r27) (cf .f64 r32))), (Bo (!(sameF (cf .f64 r27) (cf .f64 r32)))), (Pt b10 1), (Fl r3), (Fd r45), (Pt b17 1), (Fl r7), (Fd r50), (Bo (sameF (cf .f64 r45) (cf .f64 r50))), (Bo (!(sameF (cf .f64 r45) (cf .f64 r50))))]) rfl rfl (does_assign (u := (Bo false)) (ev rfl)) rfl ?_
    refine wpList_nil (hK59 _ _ ?_)
    refine wp_ret ?_
    dsimp only [Exit.then, Exit.inBlock]
    refine ret_val (v := (Bo false)) (res_T rfl (slot rfl)) X57 ?_
    try simp only [h2, h4, h6, h8, h28, h33, h46, h51] at c40 c58
    have x60 : (sameR A_r A_q) = false := by first | with_reducible rfl | (simp only [sameR, h2, h4, h6, h8, h28, h33, h46, h51, c40, c58]; done) | (simp [sameR, h2, h4, h6, h8, h28, h33, h46, h51, c40, c58]; done) | (revert c40 c58; simp +contextual [sameR, h2, h4, h6, h8, h28, h33, h46, h51]; done) | (rcases c40' with hh | hh <;> simp only [hh, sameR, h2, h4, h6, h8, h28, h33, h46, h51, c40, c58]; done) | (rcases c58' with hh | hh <;> simp only [hh, sameR, h2, h4, h6, h8, h28, h33, h46, h51, c40, c58]; done) | (rcases c58' with hh | hh <;> simp_all [sameR]; done) | (rcases c58' with hh | hh | hh <;> simp_all [sameR]; done) | (rcases c58' with hh | hh | hh | hh <;> simp_all [sameR]; done) | (simp_all [sameR]; done) | rfl
    exact (by first | rfl | rw [x60])
  rw [Bool.not_eq_false'] at c58
  have c58' := c58
  refine wp_skip (hK43 _ _ ?_)
  refine wp_seq_k fun K61 hK61 => ?_
  refine wp_region_lit ?_
  refine q_is (l' := [(.agg #[(Fl r1), (Fl r3)]), (.agg #[(Fl r5), (Fl r7)]), (Pt b10 0), (Pt b17 0), (Bo true), (Pt b10 0), (Fl r1), (Fd r27), (Pt b17 0), (Fl r5), (Fd r32), (Bo (sameF (cf .f64 r27) (cf .f64 r32))), (Bo (!(sameF (cf .f64 r27) (cf .f64 r32)))), (Pt b10 1), (Fl r3), (Fd r45), (Pt b17 1), (Fl r7), (Fd r50), (Bo (sameF (cf .f64 r45) (cf .f64 r50))), (Bo (!(sameF (cf .f64 r45) (cf .f64 r50))))]) rfl rfl (does_assign (u := (Bo true)) (ev rfl)) rfl ?_
  refine wpList_nil (hK61 _ _ ?_)
  refine wp_ret ?_
  refine ret_val (v := (Bo true)) (res_T rfl (slot rfl)) X57 ?_
  try simp only [h2, h4, h6, h8, h28, h33, h46, h51] at c40 c58
  have x62 : (sameR A_r A_q) = true := by first | with_reducible rfl | (simp only [sameR, h2, h4, h6, h8, h28, h33, h46, h51, c40, c58]; done) | (simp [sameR, h2, h4, h6, h8, h28, h33, h46, h51, c40, c58]; done) | (revert c40 c58; simp +contextual [sameR, h2, h4, h6, h8, h28, h33, h46, h51]; done) | (rcases c40' with hh | hh <;> simp only [hh, sameR, h2, h4, h6, h8, h28, h33, h46, h51, c40, c58]; done) | (rcases c58' with hh | hh <;> simp only [hh, sameR, h2, h4, h6, h8, h28, h33, h46, h51, c40, c58]; done) | (rcases c58' with hh | hh <;> simp_all [sameR]; done) | (rcases c58' with hh | hh | hh <;> simp_all [sameR]; done) | (rcases c58' with hh | hh | hh | hh <;> simp_all [sameR]; done) | (simp_all [sameR]; done) | rfl
  exact (by first | rfl | rw [x62])

/- laws.FnExactLongRange -/
theorem c_laws_FnExactLongRange (x_ : List Value) (A_x_ : Rg) (y_ : List Value) (A_y_ : Rg) (z_ : List Value) (A_z_ : Rg) (w : World) (hv_x_ : RRg w A_x_ x_) (hv_y_ : RRg w A_y_ y_) (hv_z_ : RRg w A_z_ z_) : Gives Try.prog 4 #[(.agg x_.toArray), (.agg y_.toArray), (.agg z_.toArray)] w (fun v w' => v = (Bo true)) := by
  obtain ⟨r1, r3, rfl, h2, h4⟩ := hv_x_
  obtain ⟨r5, r7, rfl, h6, h8⟩ := hv_y_
  obtain ⟨r9, r11, rfl, h10, h12⟩ := hv_z_
  refine enter [(.agg #[(Fl r1), (Fl r3)]), (.agg #[(Fl r5), (Fl r7)]), (.agg #[(Fl r9), (Fl r11)]), Ud, Ud, Ud, Ud, Ud, Ud, Ud, Ud, Ud, Ud, Ud, Ud, Ud, Ud, Ud, Ud, Ud, Ud, Ud, Ud, Ud, Ud, Ud, Ud] Try.func4 rfl Try.ntmps4 rfl ?_
  refine wp_seq_k fun K13 hK13 => ?_
  refine wp_region_lit ?_
  refine seqd rfl rfl (does_box (u := (.agg #[(Fl r1), (Fl r3)])) (ev rfl)) ?_; rintro _ w18 ⟨b14, rfl, hb15, hB16, E17⟩
  have g19 : w.heap.size ≤ b14 := Nat.le_trans (Below.size (Ext.refl w)) hb15
  change Blk _ _ [(Fl r1), (Fl r3)] at hB16
  have X20 := Ext.gr (Ext.refl w) E17
  show wpList _ _ _ _ (fr [(.agg #[(Fl r1), (Fl r3)]), (.agg #[(Fl r5), (Fl r7)]), (.agg #[(Fl r9), (Fl r11)]), (Pt b14 0), Ud, Ud, Ud, Ud, Ud, Ud, Ud, Ud, Ud, Ud, Ud, Ud, Ud, Ud, Ud, Ud, Ud, Ud, Ud, Ud, Ud, Ud, Ud]) _
  refine seqd rfl rfl (does_box (u := (.agg #[(Fl r5), (Fl r7)])) (ev rfl)) ?_; rintro _ w25 ⟨b21, rfl, hb22, hB23, E24⟩
  have n26 : b14 < b21 := Nat.lt_of_lt_of_le (Blk.lt hB16) hb22
  have g27 : w.heap.size ≤ b21 := Nat.le_trans (Below.size X20) hb22
  change Blk _ _ [(Fl r5), (Fl r7)] at hB23
  have X28 := Ext.gr X20 E24
  show wpList _ _ _ _ (fr [(.agg #[(Fl r1), (Fl r3)]), (.agg #[(Fl r5), (Fl r7)]), (.agg #[(Fl r9), (Fl r11)]), (Pt b14 0), (Pt b21 0), Ud, Ud, Ud, Ud, Ud, Ud, Ud, Ud, Ud, Ud, Ud, Ud, Ud, Ud, Ud, Ud, Ud, Ud, Ud, Ud, Ud, Ud]) _
  refine seqd rfl rfl (does_box (u := (.agg #[(Fl r9), (Fl r11)])) (ev rfl)) ?_; rintro _ w33 ⟨b29, rfl, hb30, hB31, E32⟩
  have n34 : b14 < b29 := Nat.lt_of_lt_of_le (Blk.lt (hB16.ext E24)) hb30
  have n35 : b21 < b29 := Nat.lt_of_lt_of_le (Blk.lt hB23) hb30
  have g36 : w.heap.size ≤ b29 := Nat.le_trans (Below.size X28) hb30
  change Blk _ _ [(Fl r9), (Fl r11)] at hB31
  have X37 := Ext.gr X28 E32
  show wpList _ _ _ _ (fr [(.agg #[(Fl r1), (Fl r3)]), (.agg #[(Fl r5), (Fl r7)]), (.agg #[(Fl r9), (Fl r11)]), (Pt b14 0), (Pt b21 0), (Pt b29 0), Ud, Ud, Ud, Ud, Ud, Ud, Ud, Ud, Ud, Ud, Ud, Ud, Ud, Ud, Ud, Ud, Ud, Ud, Ud, Ud, Ud]) _
  refine q_is (l' := [(.agg #[(Fl r1), (Fl r3)]), (.agg #[(Fl r5), (Fl r7)]), (.agg #[(Fl r9), (Fl r11)]), (Pt b14 0), (Pt b21 0), (Pt b29 0), (Bo false), Ud, Ud, Ud, Ud, Ud, Ud, Ud, Ud, Ud, Ud, Ud, Ud, Ud, Ud, Ud, Ud, Ud, Ud, Ud, Ud]) rfl rfl (does_assign (u := (Bo false)) (ev rfl)) rfl ?_
  refine wpList_nil (hK13 _ _ ?_)
  refine wp_seq_k fun K38 hK38 => ?_
  refine region_draw (
    [Fact.pure [] (fun v => v = (.agg #[(Fl r1), (Fl r3)])),
    Fact.pure [9] (fun v => ∃ cs_1 : List Value, v = (.agg cs_1.toArray) ∧ RRg w A_x_ cs_1),
    Fact.pure [] (fun v => v = (.agg #[(Fl r5), (Fl r7)])),
    Fact.pure [11] (fun v => ∃ cs_1 : List Value, v = (.agg cs_1.toArray) ∧ RRg w A_y_ cs_1),
    Fact.pure [] (fun v => v = (.agg #[(Fl r9), (Fl r11)])),
    Fact.pure [13] (fun v => ∃ cs_1 : List Value, v = (.agg cs_1.toArray) ∧ RRg w A_z_ cs_1),
    Fact.pure [10, 12, 14] (fun v => ∃ cs_1 : List Value, v = (.agg cs_1.toArray) ∧ RRg w (longR A_x_ A_y_ A_z_) cs_1),
    Fact.mem [] (fun v w' => ∃ b : Nat, v = .pointer (some ⟨b, 0, none⟩) ∧ w33.heap.size ≤ b ∧ Blk w' b [(Fl 0), (Fl 0)]) (by rintro v w1 w2 hx ⟨b, rfl, hb, hB⟩; exact ⟨b, rfl, hb, (hB.ext hx)⟩)]) mixed (by kernel_rfl) (by intro _ _ d _ _ h; cases d <;> exact h) ?_
  obtain ⟨w39, hw41⟩ : ∃ w', w' = World.drew w33 := ⟨_, rfl⟩; rw [← hw41]; have E40 : Ext w33 w39 := by rw [hw41]; exact Ext.draw _
  clear hw41
  have X42 := Ext.gr X37 E40
  refine RW_d (fun v43 => [(.agg #[(Fl r1), (Fl r3)]), (.agg #[(Fl r5), (Fl r7)]), (.agg #[(Fl r9), (Fl r11)]), (Pt b14 0), (Pt b21 0), (Pt b29 0), (Bo false), Ud, Ud, v43, Ud, Ud, Ud, Ud, Ud, Ud, Ud, Ud, Ud, Ud, Ud, Ud, Ud, Ud, Ud, Ud, Ud]) rfl (fun _ => rfl) (fun u hu hF => ?_) (fun v43 => ?_)
  · clear hF
    refine doesG_un rfl ?_
    refine (does_loadAgg (cs := [(Fl r1), (Fl r3)]) (ev rfl) Try.isAgg37 Try.sizeOf37 (Blk.cells ((((hB16.ext E24).ext E32).ext E40).ext hu)) rfl).mono ?_; rintro _ _ ⟨rfl, rfl⟩
    exact ⟨rfl, Ext.refl _⟩
  refine RW_d (fun v44 => [(.agg #[(Fl r1), (Fl r3)]), (.agg #[(Fl r5), (Fl r7)]), (.agg #[(Fl r9), (Fl r11)]), (Pt b14 0), (Pt b21 0), (Pt b29 0), (Bo false), Ud, Ud, v43, v44, Ud, Ud, Ud, Ud, Ud, Ud, Ud, Ud, Ud, Ud, Ud, Ud, Ud, Ud, Ud, Ud]) rfl (fun _ => rfl) (fun u hu hF => ?_) (fun v44 => ?_)
  · have h9_ : v43 = (.agg #[(Fl r1), (Fl r3)]) := hF.1
    clear hF
    refine doesG_un rfl ?_
    obtain rfl := h9_
    refine (does_call (args := #[(.agg #[(Fl r1), (Fl r3)])]) cal20 (evs rfl) (c_laws_toRange [(Fl r1), (Fl r3)] A_x_ _ ⟨r1, r3, rfl, h2, h4⟩)).mono ?_; rintro v u' ⟨hx, ⟨csn1, hv, k0⟩⟩
    exact ⟨⟨csn1, hv, k0⟩, hx⟩
  refine RW_d (fun v45 => [(.agg #[(Fl r1), (Fl r3)]), (.agg #[(Fl r5), (Fl r7)]), (.agg #[(Fl r9), (Fl r11)]), (Pt b14 0), (Pt b21 0), (Pt b29 0), (Bo false), Ud, Ud, v43, v44, v45, Ud, Ud, Ud, Ud, Ud, Ud, Ud, Ud, Ud, Ud, Ud, Ud, Ud, Ud, Ud]) rfl (fun _ => rfl) (fun u hu hF => ?_) (fun v45 => ?_)
  · clear hF
    refine doesG_un rfl ?_
    refine (does_loadAgg (cs := [(Fl r5), (Fl r7)]) (ev rfl) Try.isAgg37 Try.sizeOf37 (Blk.cells (((hB23.ext E32).ext E40).ext hu)) rfl).mono ?_; rintro _ _ ⟨rfl, rfl⟩
    exact ⟨rfl, Ext.refl _⟩
  refine RW_d (fun v46 => [(.agg #[(Fl r1), (Fl r3)]), (.agg #[(Fl r5), (Fl r7)]), (.agg #[(Fl r9), (Fl r11)]), (Pt b14 0), (Pt b21 0), (Pt b29 0), (Bo false), Ud, Ud, v43, v44, v45, v46, Ud, Ud, Ud, Ud, Ud, Ud, Ud, Ud, Ud, Ud, Ud, Ud, Ud, Ud]) rfl (fun _ => rfl) (fun u hu hF => ?_) (fun v46 => ?_)
  · have h11_ : v45 = (.agg #[(Fl r5), (Fl r7)]) := hF.1
    clear hF
    refine doesG_un rfl ?_
    obtain rfl := h11_
    refine (does_call (args := #[(.agg #[(Fl r5), (Fl r7)])]) cal20 (evs rfl) (c_laws_toRange [(Fl r5), (Fl r7)] A_y_ _ ⟨r5, r7, rfl, h6, h8⟩)).mono ?_; rintro v u' ⟨hx, ⟨csn1, hv, k0⟩⟩
    exact ⟨⟨csn1, hv, k0⟩, hx⟩
  refine RW_d (fun v47 => [(.agg #[(Fl r1), (Fl r3)]), (.agg #[(Fl r5), (Fl r7)]), (.agg #[(Fl r9), (Fl r11)]), (Pt b14 0), (Pt b21 0), (Pt b29 0), (Bo false), Ud, Ud, v43, v44, v45, v46, v47, Ud, Ud, Ud, Ud, Ud, Ud, Ud, Ud, Ud, Ud, Ud, Ud, Ud]) rfl (fun _ => rfl) (fun u hu hF => ?_) (fun v47 => ?_)
  · clear hF
    refine doesG_un rfl ?_
    refine (does_loadAgg (cs := [(Fl r9), (Fl r11)]) (ev rfl) Try.isAgg37 Try.sizeOf37 (Blk.cells ((hB31.ext E40).ext hu)) rfl).mono ?_; rintro _ _ ⟨rfl, rfl⟩
    exact ⟨rfl, Ext.refl _⟩
  refine RW_d (fun v48 => [(.agg #[(Fl r1), (Fl r3)]), (.agg #[(Fl r5), (Fl r7)]), (.agg #[(Fl r9), (Fl r11)]), (Pt b14 0), (Pt b21 0), (Pt b29 0), (Bo false), Ud, Ud, v43, v44, v45, v46, v47, v48, Ud, Ud, Ud, Ud, Ud, Ud, Ud, Ud, Ud, Ud, Ud, Ud]) rfl (fun _ => rfl) (fun u hu hF => ?_) (fun v48 => ?_)
  · have h13_ : v47 = (.agg #[(Fl r9), (Fl r11)]) := hF.1
    clear hF
    refine doesG_un rfl ?_
    obtain rfl := h13_
    refine (does_call (args := #[(.agg #[(Fl r9), (Fl r11)])]) cal20 (evs rfl) (c_laws_toRange [(Fl r9), (Fl r11)] A_z_ _ ⟨r9, r11, rfl, h10, h12⟩)).mono ?_; rintro v u' ⟨hx, ⟨csn1, hv, k0⟩⟩
    exact ⟨⟨csn1, hv, k0⟩, hx⟩
  refine RW_d (fun v49 => [(.agg #[(Fl r1), (Fl r3)]), (.agg #[(Fl r5), (Fl r7)]), (.agg #[(Fl r9), (Fl r11)]), (Pt b14 0), (Pt b21 0), (Pt b29 0), (Bo false), Ud, Ud, v43, v44, v45, v46, v47, v48, v49, Ud, Ud, Ud, Ud, Ud, Ud, Ud, Ud, Ud, Ud, Ud]) rfl (fun _ => rfl) (fun u hu hF => ?_) (fun v49 => ?_)
  · have h10_ : ∃ cs_1 : List Value, v44 = (.agg cs_1.toArray) ∧ RRg w A_x_ cs_1 := hF.1
    have h12_ : ∃ cs_1 : List Value, v46 = (.agg cs_1.toArray) ∧ RRg w A_y_ cs_1 := hF.2.1
    have h14_ : ∃ cs_1 : List Value, v48 = (.agg cs_1.toArray) ∧ RRg w A_z_ cs_1 := hF.2.2.1
    clear hF
    refine doesG_un rfl ?_
    obtain ⟨_, rfl, ⟨r10_1, r10_3, rfl, h10_2, h10_4⟩⟩ := h10_
    obtain ⟨_, rfl, ⟨r12_1, r12_3, rfl, h12_2, h12_4⟩⟩ := h12_
    obtain ⟨_, rfl, ⟨r14_1, r14_3, rfl, h14_2, h14_4⟩⟩ := h14_
    refine (does_call (args := #[(.agg #[(Fl r10_1), (Fl r10_3)]), (.agg #[(Fl r12_1), (Fl r12_3)]), (.agg #[(Fl r14_1), (Fl r14_3)])]) cal19 (evs rfl) (c_spec_LongRange [(Fl r10_1), (Fl r10_3)] A_x_ [(Fl r12_1), (Fl r12_3)] A_y_ [(Fl r14_1), (Fl r14_3)] A_z_ _ ⟨r10_1, r10_3, rfl, (by assumption), (by assumption)⟩ ⟨r12_1, r12_3, rfl, (by assumption), (by assumption)⟩ ⟨r14_1, r14_3, rfl, (by assumption), (by assumption)⟩)).mono ?_; rintro v u' ⟨hx, ⟨csn1, hv, k0⟩⟩
    exact ⟨⟨csn1, hv.trans (by simp only [h10_2, h10_4, h12_2, h12_4, h14_2, h14_4]), (by first | exact k0 | simpa only [h10_2, h10_4, h12_2, h12_4, h14_2, h14_4] using RRg.any (w := w) k0)⟩, hx⟩
  refine RW_d (fun v50 => [(.agg #[(Fl r1), (Fl r3)]), (.agg #[(Fl r5), (Fl r7)]), (.agg #[(Fl r9), (Fl r11)]), (Pt b14 0), (Pt b21 0), (Pt b29 0), (Bo false), v50, Ud, v43, v44, v45, v46, v47, v48, v49, Ud, Ud, Ud, Ud, Ud, Ud, Ud, Ud, Ud, Ud, Ud]) rfl (fun _ => rfl) (fun u hu hF => ?_) (fun v50 => ?_)
  · clear hF
    refine doesG_un rfl ?_
    refine (does_alloc z38).mono ?_; rintro _ _ ⟨b, rfl, hb, hB, hx⟩
    exact ⟨⟨b, rfl, Nat.le_trans (Nat.le_trans (Below.size E40) (Below.size hu)) hb, hB⟩, hx⟩
  refine RW_fin ?_; intro w51 E52 hP53
  obtain ⟨⟨⟨⟨⟨⟨⟨⟨-, -⟩, -⟩, -⟩, -⟩, -⟩, -⟩, q54⟩, q55⟩ := hP53
  have X56 := Ext.gr X42 E52
  have q54 : ∃ cs_1 : List Value, v49 = (.agg cs_1.toArray) ∧ RRg w (longR A_x_ A_y_ A_z_) cs_1 := q54
  obtain ⟨_, rfl, ⟨r57, r59, rfl, h58, h60⟩⟩ := q54
  have q55 : ∃ b : Nat, v50 = .pointer (some ⟨b, 0, none⟩) ∧ w33.heap.size ≤ b ∧ Blk w51 b [(Fl 0), (Fl 0)] := q55
  obtain ⟨b61, rfl, hb62, hB63⟩ := q55
  have n64 : b14 < b61 := Nat.lt_of_lt_of_le (Blk.lt ((hB16.ext E24).ext E32)) hb62
  have n65 : b21 < b61 := Nat.lt_of_lt_of_le (Blk.lt (hB23.ext E32)) hb62
  have n66 : b29 < b61 := Nat.lt_of_lt_of_le (Blk.lt hB31) hb62
  have g67 : w.heap.size ≤ b61 := Nat.le_trans (Below.size X37) hb62
  show wpList _ _ _ _ (fr [(.agg #[(Fl r1), (Fl r3)]), (.agg #[(Fl r5), (Fl r7)]), (.agg #[(Fl r9), (Fl r11)]), (Pt b14 0), (Pt b21 0), (Pt b29 0), (Bo false), (Pt b61 0), Ud, v43, v44, v45, v46, v47, v48, (.agg #[(Fl r57), (Fl r59)]), Ud, Ud, Ud, Ud, Ud, Ud, Ud, Ud, Ud, Ud, Ud]) _
  refine seqn rfl rfl (does_store (n := 2) (cs := [(Fl 0), (Fl 0)]) (u := (.agg #[(Fl r57), (Fl r59)])) (ev rfl) (ev rfl) Try.sizeOf38 rfl hB63 (Nat.le_of_ble_eq_true rfl) rfl) ?_; rintro _ w70 ⟨rfl, W68, hB69⟩
  change Blk _ _ [(Fl r57), (Fl r59)] at hB69
  have X71 := Below.wr X56 W68 g67
  refine wpList_nil (hK38 _ _ ?_)
  refine wp_seq_k fun K72 hK72 => ?_
  refine region_draw (
    [Fact.pure [] (fun v => v = (.agg #[(Fl r1), (Fl r3)])),
    Fact.pure [16] (fun v => ∃ cs_1 : List Value, v = (.agg cs_1.toArray) ∧ RRg w A_x_ cs_1),
    Fact.pure [] (fun v => v = (.agg #[(Fl r5), (Fl r7)])),
    Fact.pure [18] (fun v => ∃ cs_1 : List Value, v = (.agg cs_1.toArray) ∧ RRg w A_y_ cs_1),
    Fact.pure [] (fun v => v = (.agg #[(Fl r9), (Fl r11)])),
    Fact.pure [20] (fun v => ∃ cs_1 : List Value, v = (.agg cs_1.toArray) ∧ RRg w A_z_ cs_1),
    Fact.pure [17, 19, 21] (fun v => ∃ cs_1 : List Value, v = (.agg cs_1.toArray) ∧ RRg w (longR A_x_ A_y_ A_z_) cs_1),
    Fact.mem [] (fun v w' => ∃ b : Nat, v = .pointer (some ⟨b, 0, none⟩) ∧ w70.heap.size ≤ b ∧ Blk w' b [(Fl 0), (Fl 0)]) (by rintro v w1 w2 hx ⟨b, rfl, hb, hB⟩; exact ⟨b, rfl, hb, (hB.ext hx)⟩)]) mixed (by kernel_rfl) (by intro _ _ d _ _ h; cases d <;> exact h) ?_
  obtain ⟨w73, hw75⟩ : ∃ w', w' = World.drew w70 := ⟨_, rfl⟩; rw [← hw75]; have E74 : Ext w70 w73 := by rw [hw75]; exact Ext.draw _
  clear hw75
  have X76 := Ext.gr X71 E74
  refine RW_d (fun v77 => [(.agg #[(Fl r1), (Fl r3)]), (.agg #[(Fl r5), (Fl r7)]), (.agg #[(Fl r9), (Fl r11)]), (Pt b14 0), (Pt b21 0), (Pt b29 0), (Bo false), (Pt b61 0), Ud, v43, v44, v45, v46, v47, v48, (.agg #[(Fl r57), (Fl r59)]), v77, Ud, Ud, Ud, Ud, Ud, Ud, Ud, Ud, Ud, Ud]) rfl (fun _ => rfl) (fun u hu hF => ?_) (fun v77 => ?_)
  · clear hF
    refine doesG_un rfl ?_
    refine (does_loadAgg (cs := [(Fl r1), (Fl r3)]) (ev rfl) Try.isAgg37 Try.sizeOf37 (Blk.cells (((((((hB16.ext E24).ext E32).ext E40).ext E52).wr W68 (Nat.ne_of_lt n64)).ext E74).ext hu)) rfl).mono ?_; rintro _ _ ⟨rfl, rfl⟩
    exact ⟨rfl, Ext.refl _⟩
  refine RW_d (fun v78 => [(.agg #[(Fl r1), (Fl r3)]), (.agg #[(Fl r5), (Fl r7)]), (.agg #[(Fl r9), (Fl r11)]), (Pt b14 0), (Pt b21 0), (Pt b29 0), (Bo false), (Pt b61 0), Ud, v43, v44, v45, v46, v47, v48, (.agg #[(Fl r57), (Fl r59)]), v77, v78, Ud, Ud, Ud, Ud, Ud, Ud, Ud, Ud, Ud]) rfl (fun _ => rfl) (fun u hu hF => ?_) (fun v78 => ?_)
  · have h16_ : v77 = (.agg #[(Fl r1), (Fl r3)]) := hF.1
    clear hF
    refine doesG_un rfl ?_
    obtain rfl := h16_
    refine (does_call (args := #[(.agg #[(Fl r1), (Fl r3)])]) cal20 (evs rfl) (c_laws_toRange [(Fl r1), (Fl r3)] A_x_ _ ⟨r1, r3, rfl, h2, h4⟩)).mono ?_; rintro v u' ⟨hx, ⟨csn1, hv, k0⟩⟩
    exact ⟨⟨csn1, hv, k0⟩, hx⟩
  refine RW_d (fun v79 => [(.agg #[(Fl r1), (Fl r3)]), (.agg #[(Fl r5), (Fl r7)]), (.agg #[(Fl r9), (Fl r11)]), (Pt b14 0), (Pt b21 0), (Pt b29 0), (Bo false), (Pt b61 0), Ud, v43, v44, v45, v46, v47, v48, (.agg #[(Fl r57), (Fl r59)]), v77, v78, v79, Ud, Ud, Ud, Ud, Ud, Ud, Ud, Ud]) rfl (fun _ => rfl) (fun u hu hF => ?_) (fun v79 => ?_)
  · clear hF
    refine doesG_un rfl ?_
    refine (does_loadAgg (cs := [(Fl r5), (Fl r7)]) (ev rfl) Try.isAgg37 Try.sizeOf37 (Blk.cells ((((((hB23.ext E32).ext E40).ext E52).wr W68 (Nat.ne_of_lt n65)).ext E74).ext hu)) rfl).mono ?_; rintro _ _ ⟨rfl, rfl⟩
    exact ⟨rfl, Ext.refl _⟩
  refine RW_d (fun v80 => [(.agg #[(Fl r1), (Fl r3)]), (.agg #[(Fl r5), (Fl r7)]), (.agg #[(Fl r9), (Fl r11)]), (Pt b14 0), (Pt b21 0), (Pt b29 0), (Bo false), (Pt b61 0), Ud, v43, v44, v45, v46, v47, v48, (.agg #[(Fl r57), (Fl r59)]), v77, v78, v79, v80, Ud, Ud, Ud, Ud, Ud, Ud, Ud]) rfl (fun _ => rfl) (fun u hu hF => ?_) (fun v80 => ?_)
  · have h18_ : v79 = (.agg #[(Fl r5), (Fl r7)]) := hF.1
    clear hF
    refine doesG_un rfl ?_
    obtain rfl := h18_
    refine (does_call (args := #[(.agg #[(Fl r5), (Fl r7)])]) cal20 (evs rfl) (c_laws_toRange [(Fl r5), (Fl r7)] A_y_ _ ⟨r5, r7, rfl, h6, h8⟩)).mono ?_; rintro v u' ⟨hx, ⟨csn1, hv, k0⟩⟩
    exact ⟨⟨csn1, hv, k0⟩, hx⟩
  refine RW_d (fun v81 => [(.agg #[(Fl r1), (Fl r3)]), (.agg #[(Fl r5), (Fl r7)]), (.agg #[(Fl r9), (Fl r11)]), (Pt b14 0), (Pt b21 0), (Pt b29 0), (Bo false), (Pt b61 0), Ud, v43, v44, v45, v46, v47, v48, (.agg #[(Fl r57), (Fl r59)]), v77, v78, v79, v80, v81, Ud, Ud, Ud, Ud, Ud, Ud]) rfl (fun _ => rfl) (fun u hu hF => ?_) (fun v81 => ?_)
  · clear hF
    refine doesG_un rfl ?_
    refine (does_loadAgg (cs := [(Fl r9), (Fl r11)]) (ev rfl) Try.isAgg37 Try.sizeOf37 (Blk.cells (((((hB31.ext E40).ext E52).wr W68 (Nat.ne_of_lt n66)).ext E74).ext hu)) rfl).mono ?_; rintro _ _ ⟨rfl, rfl⟩
    exact ⟨rfl, Ext.refl _⟩
  refine RW_d (fun v82 => [(.agg #[(Fl r1), (Fl r3)]), (.agg #[(Fl r5), (Fl r7)]), (.agg #[(Fl r9), (Fl r11)]), (Pt b14 0), (Pt b21 0), (Pt b29 0), (Bo false), (Pt b61 0), Ud, v43, v44, v45, v46, v47, v48, (.agg #[(Fl r57), (Fl r59)]), v77, v78, v79, v80, v81, v82, Ud, Ud, Ud, Ud, Ud]) rfl (fun _ => rfl) (fun u hu hF => ?_) (fun v82 => ?_)
  · have h20_ : v81 = (.agg #[(Fl r9), (Fl r11)]) := hF.1
    clear hF
    refine doesG_un rfl ?_
    obtain rfl := h20_
    refine (does_call (args := #[(.agg #[(Fl r9), (Fl r11)])]) cal20 (evs rfl) (c_laws_toRange [(Fl r9), (Fl r11)] A_z_ _ ⟨r9, r11, rfl, h10, h12⟩)).mono ?_; rintro v u' ⟨hx, ⟨csn1, hv, k0⟩⟩
    exact ⟨⟨csn1, hv, k0⟩, hx⟩
  refine RW_d (fun v83 => [(.agg #[(Fl r1), (Fl r3)]), (.agg #[(Fl r5), (Fl r7)]), (.agg #[(Fl r9), (Fl r11)]), (Pt b14 0), (Pt b21 0), (Pt b29 0), (Bo false), (Pt b61 0), Ud, v43, v44, v45, v46, v47, v48, (.agg #[(Fl r57), (Fl r59)]), v77, v78, v79, v80, v81, v82, v83, Ud, Ud, Ud, Ud]) rfl (fun _ => rfl) (fun u hu hF => ?_) (fun v83 => ?_)
  · have h17_ : ∃ cs_1 : List Value, v78 = (.agg cs_1.toArray) ∧ RRg w A_x_ cs_1 := hF.1
    have h19_ : ∃ cs_1 : List Value, v80 = (.agg cs_1.toArray) ∧ RRg w A_y_ cs_1 := hF.2.1
    have h21_ : ∃ cs_1 : List Value, v82 = (.agg cs_1.toArray) ∧ RRg w A_z_ cs_1 := hF.2.2.1
    clear hF
    refine doesG_un rfl ?_
    obtain ⟨_, rfl, ⟨r17_1, r17_3, rfl, h17_2, h17_4⟩⟩ := h17_
    obtain ⟨_, rfl, ⟨r19_1, r19_3, rfl, h19_2, h19_4⟩⟩ := h19_
    obtain ⟨_, rfl, ⟨r21_1, r21_3, rfl, h21_2, h21_4⟩⟩ := h21_
    refine (does_call (args := #[(.agg #[(Fl r17_1), (Fl r17_3)]), (.agg #[(Fl r19_1), (Fl r19_3)]), (.agg #[(Fl r21_1), (Fl r21_3)])]) cal21 (evs rfl) (c_impl_LongRange [(Fl r17_1), (Fl r17_3)] A_x_ [(Fl r19_1), (Fl r19_3)] A_y_ [(Fl r21_1), (Fl r21_3)] A_z_ _ ⟨r17_1, r17_3, rfl, (by assumption), (by assumption)⟩ ⟨r19_1, r19_3, rfl, (by assumption), (by assumption)⟩ ⟨r21_1, r21_3, rfl, (by assumption), (by assumption)⟩)).mono ?_; rintro v u' ⟨hx, ⟨csn1, hv, k0⟩⟩
    exact ⟨⟨csn1, hv.trans (by simp only [h17_2, h17_4, h19_2, h19_4, h21_2, h21_4]), (by first | exact k0 | simpa only [h17_2, h17_4, h19_2, h19_4, h21_2, h21_4] using RRg.any (w := w) k0)⟩, hx⟩
  refine RW_d (fun v84 => [(.agg #[(Fl r1), (Fl r3)]), (.agg #[(Fl r5), (Fl r7)]), (.agg #[(Fl r9), (Fl r11)]), (Pt b14 0), (Pt b21 0), (Pt b29 0), (Bo false), (Pt b61 0), v84, v43, v44, v45, v46, v47, v48, (.agg #[(Fl r57), (Fl r59)]), v77, v78, v79, v80, v81, v82, v83, Ud, Ud, Ud, Ud]) rfl (fun _ => rfl) (fun u hu hF => ?_) (fun v84 => ?_)
  · clear hF
    refine doesG_un rfl ?_
    refine (does_alloc z38).mono ?_; rintro _ _ ⟨b, rfl, hb, hB, hx⟩
    exact ⟨⟨b, rfl, Nat.le_trans (Nat.le_trans (Below.size E74) (Below.size hu)) hb, hB⟩, hx⟩
  refine RW_fin ?_; intro w85 E86 hP87
  obtain ⟨⟨⟨⟨⟨⟨⟨⟨-, -⟩, -⟩, -⟩, -⟩, -⟩, -⟩, q88⟩, q89⟩ := hP87
  have X90 := Ext.gr X76 E86
  have q88 : ∃ cs_1 : List Value, v83 = (.agg cs_1.toArray) ∧ RRg w (longR A_x_ A_y_ A_z_) cs_1 := q88
  obtain ⟨_, rfl, ⟨r91, r93, rfl, h92, h94⟩⟩ := q88
  have q89 : ∃ b : Nat, v84 = .pointer (some ⟨b, 0, none⟩) ∧ w70.heap.size ≤ b ∧ Blk w85 b [(Fl 0), (Fl 0)] := q89
  obtain ⟨b95, rfl, hb96, hB97⟩ := q89
  have n98 : b14 < b95 := Nat.lt_of_lt_of_le (Blk.lt (((((hB16.ext E24).ext E32).ext E40).ext E52).wr W68 (Nat.ne_of_lt n64))) hb96
  have n99 : b21 < b95 := Nat.lt_of_lt_of_le (Blk.lt ((((hB23.ext E32).ext E40).ext E52).wr W68 (Nat.ne_of_lt n65))) hb96
  have n100 : b29 < b95 := Nat.lt_of_lt_of_le (Blk.lt (((hB31.ext E40).ext E52).wr W68 (Nat.ne_of_lt n66))) hb96
  have n101 : b61 < b95 := Nat.lt_of_lt_of_le (Blk.lt hB69) hb96
  have g102 : w.heap.size ≤ b95 := Nat.le_trans (Below.size X71) hb96
  show wpList _ _ _ _ (fr [(.agg #[(Fl r1), (Fl r3)]), (.agg #[(Fl r5), (Fl r7)]), (.agg #[(Fl r9), (Fl r11)]), (Pt b14 0), (Pt b21 0), (Pt b29 0), (Bo false), (Pt b61 0), (Pt b95 0), v43, v44, v45, v46, v47, v48, (.agg #[(Fl r57), (Fl r59)]), v77, v78, v79, v80, v81, v82, (.agg #[(Fl r91), (Fl r93)]), Ud, Ud, Ud, Ud]) _
  refine seqn rfl rfl (does_store (n := 2) (cs := [(Fl 0), (Fl 0)]) (u := (.agg #[(Fl r91), (Fl r93)])) (ev rfl) (ev rfl) Try.sizeOf38 rfl hB97 (Nat.le_of_ble_eq_true rfl) rfl) ?_; rintro _ w105 ⟨rfl, W103, hB104⟩
  change Blk _ _ [(Fl r91), (Fl r93)] at hB104
  have X106 := Below.wr X90 W103 g102
  refine wpList_nil (hK72 _ _ ?_)
  refine wp_seq_k fun K107 hK107 => ?_
  refine wp_seq_k fun K108 hK108 => ?_
  refine wp_region_lit ?_
  refine q_is (l' := [(.agg #[(Fl r1), (Fl r3)]), (.agg #[(Fl r5), (Fl r7)]), (.agg #[(Fl r9), (Fl r11)]), (Pt b14 0), (Pt b21 0), (Pt b29 0), (Bo false), (Pt b61 0), (Pt b95 0), v43, v44, v45, v46, v47, v48, (.agg #[(Fl r57), (Fl r59)]), v77, v78, v79, v80, v81, v82, (.agg #[(Fl r91), (Fl r93)]), (.agg #[(Fl r91), (Fl r93)]), Ud, Ud, Ud]) rfl rfl (does_loadAgg (cs := [(Fl r91), (Fl r93)]) (ev rfl) Try.isAgg38 Try.sizeOf38 (Blk.cells hB104) rfl) rfl ?_
  refine q_is (l' := [(.agg #[(Fl r1), (Fl r3)]), (.agg #[(Fl r5), (Fl r7)]), (.agg #[(Fl r9), (Fl r11)]), (Pt b14 0), (Pt b21 0), (Pt b29 0), (Bo false), (Pt b61 0), (Pt b95 0), v43, v44, v45, v46, v47, v48, (.agg #[(Fl r57), (Fl r59)]), v77, v78, v79, v80, v81, v82, (.agg #[(Fl r91), (Fl r93)]), (.agg #[(Fl r91), (Fl r93)]), (.agg #[(Fl r57), (Fl r59)]), Ud, Ud]) rfl rfl (does_loadAgg (cs := [(Fl r57), (Fl r59)]) (ev rfl) Try.isAgg38 Try.sizeOf38 (Blk.cells (((hB69.ext E74).ext E86).wr W103 (Nat.ne_of_lt n101))) rfl) rfl ?_
  refine seqd rfl rfl (does_call (args := #[(.agg #[(Fl r91), (Fl r93)]), (.agg #[(Fl r57), (Fl r59)])]) cal22 (evs rfl) (c_laws_eqRange [(Fl r91), (Fl r93)] (longR A_x_ A_y_ A_z_) [(Fl r57), (Fl r59)] (longR A_x_ A_y_ A_z_) _ ⟨r91, r93, rfl, h92, h94⟩ ⟨r57, r59, rfl, h58, h60⟩)) ?_; rintro _ w110 ⟨E109, rfl⟩
  have X111 := Ext.gr X106 E109
  show wpList _ _ _ _ (fr [(.agg #[(Fl r1), (Fl r3)]), (.agg #[(Fl r5), (Fl r7)]), (.agg #[(Fl r9), (Fl r11)]), (Pt b14 0), (Pt b21 0), (Pt b29 0), (Bo false), (Pt b61 0), (Pt b95 0), v43, v44, v45, v46, v47, v48, (.agg #[(Fl r57), (Fl r59)]), v77, v78, v79, v80, v81, v82, (.agg #[(Fl r91), (Fl r93)]), (.agg #[(Fl r91), (Fl r93)]), (.agg #[(Fl r57), (Fl r59)]), (Bo (sameR (longR A_x_ A_y_ A_z_) (longR A_x_ A_y_ A_z_))), Ud]) _
  refine q_is (l' := [(.agg #[(Fl r1), (Fl r3)]), (.agg #[(Fl r5), (Fl r7)]), (.agg #[(Fl r9), (Fl r11)]), (Pt b14 0), (Pt b21 0), (Pt b29 0), (Bo false), (Pt b61 0), (Pt b95 0), v43, v44, v45, v46, v47, v48, (.agg #[(Fl r57), (Fl r59)]), v77, v78, v79, v80, v81, v82, (.agg #[(Fl r91), (Fl r93)]), (.agg #[(Fl r91), (Fl r93)]), (.agg #[(Fl r57), (Fl r59)]), (Bo (sameR (longR A_x_ A_y_ A_z_) (longR A_x_ A_y_ A_z_))), (Bo (!(sameR (longR A_x_ A_y_ A_z_) (longR A_x_ A_y_ A_z_))))]) rfl rfl (does_not (ev rfl)) rfl ?_
  refine wpList_nil (hK108 _ _ ?_)
  refine wp_cond_split (t := !(sameR (longR A_x_ A_y_ A_z_) (longR A_x_ A_y_ A_z_))) (ev rfl) (fun c112 => ?_) (fun c112 => ?_)
  · rw [Bool.not_eq_true'] at c112
    have c112' := c112
    refine wp_seq_k fun K113 hK113 => ?_
    refine wp_region_lit ?_
    refine q_is (l' := [(.agg #[(Fl r1), (Fl r3)]), (.agg #[(Fl r5), (Fl r7)]), (.agg #[(Fl r9), (Fl r11)]), (Pt b14 0), (Pt b21 0), (Pt b29 0), (Bo false), (Pt b61 0), (Pt b95 0), v43, v44, v45, v46, v47, v48, (.agg #[(Fl r57), (Fl r59)]), v77, v78, v79, v80, v81, v82, (.agg #[(Fl r91), (Fl r93)]), (.agg #[(Fl r91), (Fl r93)]), (.agg #[(Fl r57), (Fl r59)]), (Bo (sameR (longR A_x_ A_y_ A_z_) (longR A_x_ A_y_ A_z_))), (Bo (!(sameR (longR A_x_ A_y_ A_z_) (longR A_x_ A_y_ A_z_))))]) rfl rfl (does_assign (u := (Bo false)) (ev rfl)) rfl ?_
    refine wpList_nil (hK113 _ _ ?_)
    refine wp_ret ?_
    dsimp only [Exit.then, Exit.inBlock]
    refine ret_val (v := (Bo false)) (res_T rfl (slot rfl)) X111 ?_
    try simp only [h2, h4, h6, h8, h10, h12, h58, h60, h92, h94] at c112
    have x114 : true = false := by first | with_reducible rfl | (simp only [sameR_self, h2, h4, h6, h8, h10, h12, h58, h60, h92, h94, c112]; done) | (simp [sameR_self, h2, h4, h6, h8, h10, h12, h58, h60, h92, h94, c112]; done) | (revert c112; simp +contextual [sameR_self, h2, h4, h6, h8, h10, h12, h58, h60, h92, h94]; done) | (rcases c112' with hh | hh <;> simp only [hh, sameR_self, h2, h4, h6, h8, h10, h12, h58, h60, h92, h94, c112]; done) | (rcases c112' with hh | hh <;> simp_all [sameR_self]; done) | (rcases c112' with hh | hh | hh <;> simp_all [sameR_self]; done) | (rcases c112' with hh | hh | hh | hh <;> simp_all [sameR_self]; done) | (simp_all [sameR_self]; done) | rfl
    exact (by first | rfl | rw [x114])
  rw [Bool.not_eq_false'] at c112
  have c112' := c112
  refine wp_skip (hK107 _ _ ?_)
  refine wp_seq_k fun K115 hK115 => ?_
  refine wp_region_lit ?_
  refine q_is (l' := [(.agg #[(Fl r1), (Fl r3)]), (.agg #[(Fl r5), (Fl r7)]), (.agg #[(Fl r9), (Fl r11)]), (Pt b14 0), (Pt b21 0), (Pt b29 0), (Bo true), (Pt b61 0), (Pt b95 0), v43, v44, v45, v46, v47, v48, (.agg #[(Fl r57), (Fl r59)]), v77, v78, v79, v80, v81, v82, (.agg #[(Fl r91), (Fl r93)]), (.agg #[(Fl r91), (Fl r93)]), (.agg #[(Fl r57), (Fl r59)]), (Bo (sameR (longR A_x_ A_y_ A_z_) (longR A_x_ A_y_ A_z_))), (Bo (!(sameR (longR A_x_ A_y_ A_z_) (longR A_x_ A_y_ A_z_))))]) rfl rfl (does_assign (u := (Bo true)) (ev rfl)) rfl ?_
  refine wpList_nil (hK115 _ _ ?_)
  refine wp_ret ?_
  refine ret_val (v := (Bo true)) (res_T rfl (slot rfl)) X111 ?_
  try simp only [h2, h4, h6, h8, h10, h12, h58, h60, h92, h94] at c112
  exact rfl

/- spec.l01Finite -/
theorem c_spec_l01Finite (x : Nat) (w : World) : Gives Try.prog 94 #[(Fl x)] w (fun v w' => v = (Bo (finF (cf .f32 x)))) := by
  refine enter [(Fl x), Ud, Ud, Ud, Ud, Ud, Ud] Try.func94 rfl Try.ntmps94 rfl ?_
  refine wp_seq_k fun K1 hK1 => ?_
  refine wp_region_lit ?_
  refine q_is (l' := [(Fl x), Ud, (Bo false), Ud, Ud, Ud, Ud]) rfl rfl (does_assign (u := (Bo false)) (ev rfl)) rfl ?_
  refine wpList_nil (hK1 _ _ ?_)
  refine wp_seq_k fun K2 hK2 => ?_
  refine wp_region_lit ?_
  refine q_is (l' := [(Fl x), Ud, (Bo false), (Fl x), Ud, Ud, Ud]) rfl rfl (does_move (u := (Fl x)) (ev rfl)) rfl ?_
  refine q_is (l' := [(Fl x), Ud, (Bo false), (Fl x), (Fl x), Ud, Ud]) rfl rfl (does_move (u := (Fl x)) (ev rfl)) rfl ?_
  refine seqd rfl rfl (does_float (.inr (.inl rfl)) (ev rfl) (ev rfl)) ?_; rintro _ w6 ⟨r3, rfl, h4, E5⟩
  have X7 := Ext.gr (Ext.refl w) E5
  show wpList _ _ _ _ (fr [(Fl x), Ud, (Bo false), (Fl x), (Fl x), (Fl r3), Ud]) _
  refine q_is (l' := [(Fl x), Ud, (Bo false), (Fl x), (Fl x), (Fl r3), (Bo (fcmp .eql (ford .f32 (cf .f32 r3) (cf .f32 0))))]) rfl rfl (does_fcmp (.inl rfl) (ev rfl) (ev rfl)) rfl ?_
  refine q_is (l' := [(Fl x), Ud, (Bo (fcmp .eql (ford .f32 (cf .f32 r3) (cf .f32 0)))), (Fl x), (Fl x), (Fl r3), (Bo (fcmp .eql (ford .f32 (cf .f32 r3) (cf .f32 0))))]) rfl rfl (does_assign (u := (Bo (fcmp .eql (ford .f32 (cf .f32 r3) (cf .f32 0))))) (ev rfl)) rfl ?_
  refine wpList_nil (hK2 _ _ ?_)
  refine wp_ret ?_
  refine ret_val (v := (Bo (fcmp .eql (ford .f32 (cf .f32 r3) (cf .f32 0))))) (res_T rfl (slot rfl)) X7 ?_
  have x8 : (finF (cf .f32 x)) = (fcmp .eql (ford .f32 (cf .f32 r3) (cf .f32 0))) := by first | with_reducible rfl | (simp only [finF, h4]; done) | (simp [finF, h4]; done) | rfl
  exact (by first | rfl | rw [x8])

/- spec.l01VFinite -/
theorem c_spec_l01VFinite (v : List Value) (A_v : V3) (w : World) (hv_v : RV3 w A_v v) : Gives Try.prog 52 #[(.agg v.toArray)] w (fun v w' => v = (Bo (finV A_v))) := by
  obtain ⟨r1, r3, r5, rfl, h2, h4, h6⟩ := hv_v
  refine enter [(.agg #[(Fl r1), (Fl r3), (Fl r5)]), Ud, Ud, Ud, Ud, Ud, Ud, Ud, Ud, Ud, Ud, Ud, Ud, Ud, Ud, Ud] Try.func52 rfl Try.ntmps52 rfl ?_
  refine wp_seq_k fun K7 hK7 => ?_
  refine wp_region_lit ?_
  refine seqd rfl rfl (does_box (u := (.agg #[(Fl r1), (Fl r3), (Fl r5)])) (ev rfl)) ?_; rintro _ w12 ⟨b8, rfl, hb9, hB10, E11⟩
  have g13 : w.heap.size ≤ b8 := Nat.le_trans (Below.size (Ext.refl w)) hb9
  change Blk _ _ [(Fl r1), (Fl r3), (Fl r5)] at hB10
  have X14 := Ext.gr (Ext.refl w) E11
  show wpList _ _ _ _ (fr [(.agg #[(Fl r1), (Fl r3), (Fl r5)]), (Pt b8 0), Ud, Ud, Ud, Ud, Ud, Ud, Ud, Ud, Ud, Ud, Ud, Ud, Ud, Ud]) _
  refine q_is (l' := [(.agg #[(Fl r1), (Fl r3), (Fl r5)]), (Pt b8 0), (Bo false), Ud, Ud, Ud, Ud, Ud, Ud, Ud, Ud, Ud, Ud, Ud, Ud, Ud]) rfl rfl (does_assign (u := (Bo false)) (ev rfl)) rfl ?_
  refine wpList_nil (hK7 _ _ ?_)
  refine wp_seq_k fun K15 hK15 => ?_
  obtain ⟨β1, hβ1⟩ : ∃ b : Bool, b = ((finF (cf .f32 r1)) && (finF (cf .f32 r3))) := ⟨_, rfl⟩
  obtain ⟨β2, hβ2⟩ : ∃ b : Bool, b = (β1 && (finF (cf .f32 r5))) := ⟨_, rfl⟩
  refine region_text (
    [Fact.pure [] (fun v => v = (Pt b8 0)),
    Fact.pure [3] (fun v => v = (Fl r1)),
    Fact.pure [4] (fun v => v = (Bo (finF (cf .f32 r1)))),
    Fact.pure [5] (fun v => v = (Bo (finF (cf .f32 r1)))),
    Fact.pure [6] (fun v => (finF (cf .f32 r1)) = true → v = (Pt b8 1)),
    Fact.pure [7, 6] (fun v => (finF (cf .f32 r1)) = true → v = (Fl r3)),
    Fact.pure [8, 6] (fun v => (finF (cf .f32 r1)) = true → v = (Bo (finF (cf .f32 r3)))),
    Fact.pure [6, 9] (fun v => v = (Bo β1)),
    Fact.pure [10] (fun v => v = (Bo β1)),
    Fact.pure [11] (fun v => β1 = true → v = (Pt b8 2)),
    Fact.pure [12, 11] (fun v => β1 = true → v = (Fl r5)),
    Fact.pure [13, 11] (fun v => β1 = true → v = (Bo (finF (cf .f32 r5)))),
    Fact.pure [11, 14] (fun v => v = (Bo β2))]) (by simp [Fact.pure, Fact.mem]) ?_
  refine RW_d (fun v16 => [(.agg #[(Fl r1), (Fl r3), (Fl r5)]), (Pt b8 0), (Bo false), v16, Ud, Ud, Ud, Ud, Ud, Ud, Ud, Ud, Ud, Ud, Ud, Ud]) rfl (fun _ => rfl) (fun u hu hF => ?_) (fun v16 => ?_)
  · clear hF
    refine doesG_un rfl ?_
    refine (does_fieldAddr (ev rfl) fa26_0).mono ?_; rintro _ _ ⟨rfl, rfl⟩
    exact ⟨rfl, Ext.refl _⟩
  refine RW_d (fun v17 => [(.agg #[(Fl r1), (Fl r3), (Fl r5)]), (Pt b8 0), (Bo false), v16, v17, Ud, Ud, Ud, Ud, Ud, Ud, Ud, Ud, Ud, Ud, Ud]) rfl (fun _ => rfl) (fun u hu hF => ?_) (fun v17 => ?_)
  · have h3_ : v16 = (Pt b8 0) := hF.1
    clear hF
    refine doesG_un rfl ?_
    obtain rfl := h3_
    refine (does_load (u := (Fl r1)) (ev rfl) Try.isAgg24 (Cells.at (Blk.cells (hB10.ext hu)) 0 rfl)).mono ?_; rintro _ _ ⟨rfl, rfl⟩
    exact ⟨rfl, Ext.refl _⟩
  refine RW_d (fun v18 => [(.agg #[(Fl r1), (Fl r3), (Fl r5)]), (Pt b8 0), (Bo false), v16, v17, v18, Ud, Ud, Ud, Ud, Ud, Ud, Ud, Ud, Ud, Ud]) rfl (fun _ => rfl) (fun u hu hF => ?_) (fun v18 => ?_)
  · have h4_ : v17 = (Fl r1) := hF.1
    clear hF
    refine doesG_un rfl ?_
    obtain rfl := h4_
    refine (does_call (args := #[(Fl r1)]) cal94 (evs rfl) (c_spec_l01Finite r1 _)).mono ?_; rintro v u' ⟨hx, hv⟩
    exact ⟨hv, hx⟩
  refine RW_d (fun v19 => [(.agg #[(Fl r1), (Fl r3), (Fl r5)]), (Pt b8 0), (Bo false), v16, v17, v18, v19, Ud, Ud, Ud, Ud, Ud, Ud, Ud, Ud, Ud]) rfl (fun _ => rfl) (fun u hu hF => ?_) (fun v19 => ?_)
  · have h5_ : v18 = (Bo (finF (cf .f32 r1))) := hF.1
    clear hF
    refine doesG_un rfl ?_
    obtain rfl := h5_
    refine (does_move (u := (Bo (finF (cf .f32 r1)))) (ev rfl)).mono ?_; rintro _ _ ⟨rfl, rfl⟩
    exact ⟨rfl, Ext.refl _⟩
  refine RW_d (fun v20 => [(.agg #[(Fl r1), (Fl r3), (Fl r5)]), (Pt b8 0), (Bo false), v16, v17, v18, v19, v20, Ud, Ud, Ud, Ud, Ud, Ud, Ud, Ud]) rfl (fun _ => rfl) (fun u hu hF => ?_) (fun v20 => ?_)
  · have h6_ : v19 = (Bo (finF (cf .f32 r1))) := hF.1
    clear hF
    obtain rfl := h6_
    refine doesG_g (b := (finF (cf .f32 r1))) rfl (yld rfl rfl) (fun hg1 => ?_) (fun hc => ⟨fun hg1 => absurd hg1 hc, Ext.refl _⟩)
    refine (does_fieldAddr (ev rfl) fa26_1).mono ?_; rintro _ _ ⟨rfl, rfl⟩
    exact ⟨fun _ => rfl, Ext.refl _⟩
  refine RW_d (fun v21 => [(.agg #[(Fl r1), (Fl r3), (Fl r5)]), (Pt b8 0), (Bo false), v16, v17, v18, v19, v20, v21, Ud, Ud, Ud, Ud, Ud, Ud, Ud]) rfl (fun _ => rfl) (fun u hu hF => ?_) (fun v21 => ?_)
  · have h7_ : (finF (cf .f32 r1)) = true → v20 = (Pt b8 1) := hF.1
    have h6_ : v19 = (Bo (finF (cf .f32 r1))) := hF.2.1
    clear hF
    obtain rfl := h6_
    refine doesG_g (b := (finF (cf .f32 r1))) rfl (yld rfl rfl) (fun hg1 => ?_) (fun hc => ⟨fun hg1 => absurd hg1 hc, Ext.refl _⟩)
    obtain rfl := h7_ hg1
    refine (does_load (u := (Fl r3)) (ev rfl) Try.isAgg24 (Cells.at (Blk.cells (hB10.ext hu)) 1 rfl)).mono ?_; rintro _ _ ⟨rfl, rfl⟩
    exact ⟨fun _ => rfl, Ext.refl _⟩
  refine RW_d (fun v22 => [(.agg #[(Fl r1), (Fl r3), (Fl r5)]), (Pt b8 0), (Bo false), v16, v17, v18, v19, v20, v21, v22, Ud, Ud, Ud, Ud, Ud, Ud]) rfl (fun _ => rfl) (fun u hu hF => ?_) (fun v22 => ?_)
  · have h8_ : (finF (cf .f32 r1)) = true → v21 = (Fl r3) := hF.1
    have h6_ : v19 = (Bo (finF (cf .f32 r1))) := hF.2.1
    clear hF
    obtain rfl := h6_
    refine doesG_g (b := (finF (cf .f32 r1))) rfl (yld rfl rfl) (fun hg1 => ?_) (fun hc => ⟨fun hg1 => absurd hg1 hc, Ext.refl _⟩)
    obtain rfl := h8_ hg1
    refine (does_call (args := #[(Fl r3)]) cal94 (evs rfl) (c_spec_l01Finite r3 _)).mono ?_; rintro v u' ⟨hx, hv⟩
    exact ⟨fun _ => hv, hx⟩
  refine RW_d (fun v23 => [(.agg #[(Fl r1), (Fl r3), (Fl r5)]), (Pt b8 0), (Bo false), v16, v17, v18, v19, v20, v21, v22, v23, Ud, Ud, Ud, Ud, Ud]) rfl (fun _ => rfl) (fun u hu hF => ?_) (fun v23 => ?_)
  · have h6_ : v19 = (Bo (finF (cf .f32 r1))) := hF.1
    have h9_ : (finF (cf .f32 r1)) = true → v22 = (Bo (finF (cf .f32 r3))) := hF.2.1
    clear hF
    refine doesG_un rfl ?_
    skip
    obtain rfl := h6_
    refine (does_pick (b := (finF (cf .f32 r1))) (ev rfl) (ev rfl) (ev rfl)).mono ?_; rintro _ _ ⟨rfl, rfl⟩; refine ⟨?_, Ext.refl _⟩; rw [hβ1]; skip
    cases hbb : (finF (cf .f32 r1)) <;> simp [hbb] at h9_ ⊢
    all_goals (first | rfl | (subst h9_; rfl) | simp_all)
  refine RW_d (fun v24 => [(.agg #[(Fl r1), (Fl r3), (Fl r5)]), (Pt b8 0), (Bo false), v16, v17, v18, v19, v20, v21, v22, v23, v24, Ud, Ud, Ud, Ud]) rfl (fun _ => rfl) (fun u hu hF => ?_) (fun v24 => ?_)
  · have h10_ : v23 = (Bo β1) := hF.1
    clear hF
    refine doesG_un rfl ?_
    obtain rfl := h10_
    refine (does_move (u := (Bo β1)) (ev rfl)).mono ?_; rintro _ _ ⟨rfl, rfl⟩
    exact ⟨rfl, Ext.refl _⟩
  refine RW_d (fun v25 => [(.agg #[(Fl r1), (Fl r3), (Fl r5)]), (Pt b8 0), (Bo false), v16, v17, v18, v19, v20, v21, v22, v23, v24, v25, Ud, Ud, Ud]) rfl (fun _ => rfl) (fun u hu hF => ?_) (fun v25 => ?_)
  · have h11_ : v24 = (Bo β1) := hF.1
    clear hF
    obtain rfl := h11_
    refine doesG_g (b := β1) rfl (yld rfl rfl) (fun hg1 => ?_) (fun hc => ⟨fun hg1 => absurd hg1 hc, Ext.refl _⟩)
    refine (does_fieldAddr (ev rfl) fa26_2).mono ?_; rintro _ _ ⟨rfl, rfl⟩
    exact ⟨fun _ => rfl, Ext.refl _⟩
  refine RW_d (fun v26 => [(.agg #[(Fl r1), (Fl r3), (Fl r5)]), (Pt b8 0), (Bo false), v16, v17, v18, v19, v20, v21, v22, v23, v24, v25, v26, Ud, Ud]) rfl (fun _ => rfl) (fun u hu hF => ?_) (fun v26 => ?_)
  · have h12_ : β1 = true → v25 = (Pt b8 2) := hF.1
    have h11_ : v24 = (Bo β1) := hF.2.1
    clear hF
    obtain rfl := h11_
    refine doesG_g (b := β1) rfl (yld rfl rfl) (fun hg1 => ?_) (fun hc => ⟨fun hg1 => absurd hg1 hc, Ext.refl _⟩)
    obtain rfl := h12_ hg1
    refine (does_load (u := (Fl r5)) (ev rfl) Try.isAgg24 (Cells.at (Blk.cells (hB10.ext hu)) 2 rfl)).mono ?_; rintro _ _ ⟨rfl, rfl⟩
    exact ⟨fun _ => rfl, Ext.refl _⟩
  refine RW_d (fun v27 => [(.agg #[(Fl r1), (Fl r3), (Fl r5)]), (Pt b8 0), (Bo false), v16, v17, v18, v19, v20, v21, v22, v23, v24, v25, v26, v27, Ud]) rfl (fun _ => rfl) (fun u hu hF => ?_) (fun v27 => ?_)
  · have h13_ : β1 = true → v26 = (Fl r5) := hF.1
    have h11_ : v24 = (Bo β1) := hF.2.1
    clear hF
    obtain rfl := h11_
    refine doesG_g (b := β1) rfl (yld rfl rfl) (fun hg1 => ?_) (fun hc => ⟨fun hg1 => absurd hg1 hc, Ext.refl _⟩)
    obtain rfl := h13_ hg1
    refine (does_call (args := #[(Fl r5)]) cal94 (evs rfl) (c_spec_l01Finite r5 _)).mono ?_; rintro v u' ⟨hx, hv⟩
    exact ⟨fun _ => hv, hx⟩
  refine RW_d (fun v28 => [(.agg #[(Fl r1), (Fl r3), (Fl r5)]), (Pt b8 0), (Bo false), v16, v17, v18, v19, v20, v21, v22, v23, v24, v25, v26, v27, v28]) rfl (fun _ => rfl) (fun u hu hF => ?_) (fun v28 => ?_)
  · have h11_ : v24 = (Bo β1) := hF.1
    have h14_ : β1 = true → v27 = (Bo (finF (cf .f32 r5))) := hF.2.1
    clear hF
    refine doesG_un rfl ?_
    skip
    obtain rfl := h11_
    refine (does_pick (b := β1) (ev rfl) (ev rfl) (ev rfl)).mono ?_; rintro _ _ ⟨rfl, rfl⟩; refine ⟨?_, Ext.refl _⟩; rw [hβ2]; skip
    cases hbb : β1 <;> simp [hbb] at h14_ ⊢
    all_goals (first | rfl | (subst h14_; rfl) | simp_all)
  refine RW_fin ?_; intro w29 E30 hP31
  obtain ⟨⟨⟨⟨⟨⟨⟨⟨⟨⟨⟨⟨⟨-, -⟩, -⟩, -⟩, -⟩, -⟩, -⟩, -⟩, -⟩, -⟩, -⟩, -⟩, -⟩, q32⟩ := hP31
  have X33 := Ext.gr X14 E30
  have q32 : v28 = (Bo β2) := q32
  obtain rfl := q32
  show wpList _ _ _ _ (fr [(.agg #[(Fl r1), (Fl r3), (Fl r5)]), (Pt b8 0), (Bo false), v16, v17, v18, v19, v20, v21, v22, v23, v24, v25, v26, v27, (Bo β2)]) _
  refine q_is (l' := [(.agg #[(Fl r1), (Fl r3), (Fl r5)]), (Pt b8 0), (Bo β2), v16, v17, v18, v19, v20, v21, v22, v23, v24, v25, v26, v27, (Bo β2)]) rfl rfl (does_assign (u := (Bo β2)) (ev rfl)) rfl ?_
  refine wpList_nil (hK15 _ _ ?_)
  refine wp_ret ?_
  refine ret_val (v := (Bo β2)) (res_T rfl (slot rfl)) X33 ?_
  have x34 : (finV A_v) = β2 := by first | with_reducible rfl | (simp only [finV, h2, h4, h6, hβ1, hβ2]; done) | (simp [finV, h2, h4, h6, hβ1, hβ2]; done) | rfl
  exact (by first | rfl | rw [x34])

/- spec.l01Scale -/
theorem c_spec_l01Scale (a : List Value) (A_a : V3) (b : Nat) (w : World) (hv_a : RV3 w A_a a) : Gives Try.prog 86 #[(.agg a.toArray), (Fl b)] w (fun v w' => ∃ cs_1 : List Value, v = (.agg cs_1.toArray) ∧ RV3 w (vscale A_a (cf .f32 b)) cs_1) := by
  obtain ⟨r1, r3, r5, rfl, h2, h4, h6⟩ := hv_a
  refine enter [(.agg #[(Fl r1), (Fl r3), (Fl r5)]), (Fl b), Ud, Ud, Ud, Ud, Ud, Ud, Ud, Ud, Ud, Ud, Ud, Ud, Ud, Ud, Ud, Ud] Try.func86 rfl Try.ntmps86 rfl ?_
  refine wp_seq_k fun K7 hK7 => ?_
  refine wp_region_lit ?_
  refine seqd rfl rfl (does_box (u := (.agg #[(Fl r1), (Fl r3), (Fl r5)])) (ev rfl)) ?_; rintro _ w12 ⟨b8, rfl, hb9, hB10, E11⟩
  have g13 : w.heap.size ≤ b8 := Nat.le_trans (Below.size (Ext.refl w)) hb9
  change Blk _ _ [(Fl r1), (Fl r3), (Fl r5)] at hB10
  have X14 := Ext.gr (Ext.refl w) E11
  show wpList _ _ _ _ (fr [(.agg #[(Fl r1), (Fl r3), (Fl r5)]), (Fl b), (Pt b8 0), Ud, Ud, Ud, Ud, Ud, Ud, Ud, Ud, Ud, Ud, Ud, Ud, Ud, Ud, Ud]) _
  refine seqd rfl rfl (does_alloc z26) ?_; rintro _ w19 ⟨b15, rfl, hb16, hB17, E18⟩
  have n20 : b8 < b15 := Nat.lt_of_lt_of_le (Blk.lt hB10) hb16
  have g21 : w.heap.size ≤ b15 := Nat.le_trans (Below.size X14) hb16
  change Blk _ _ [(Fl 0), (Fl 0), (Fl 0)] at hB17
  have X22 := Ext.gr X14 E18
  show wpList _ _ _ _ (fr [(.agg #[(Fl r1), (Fl r3), (Fl r5)]), (Fl b), (Pt b8 0), Ud, (Pt b15 0), Ud, Ud, Ud, Ud, Ud, Ud, Ud, Ud, Ud, Ud, Ud, Ud, Ud]) _
  refine wpList_nil (hK7 _ _ ?_)
  refine wp_seq_k fun K23 hK23 => ?_
  refine wp_region_lit ?_
  refine q_is (l' := [(.agg #[(Fl r1), (Fl r3), (Fl r5)]), (Fl b), (Pt b8 0), Ud, (Pt b15 0), (Pt b8 0), Ud, Ud, Ud, Ud, Ud, Ud, Ud, Ud, Ud, Ud, Ud, Ud]) rfl rfl (does_fieldAddr (ev rfl) fa26_0) rfl ?_
  refine q_is (l' := [(.agg #[(Fl r1), (Fl r3), (Fl r5)]), (Fl b), (Pt b8 0), Ud, (Pt b15 0), (Pt b8 0), (Fl r1), Ud, Ud, Ud, Ud, Ud, Ud, Ud, Ud, Ud, Ud, Ud]) rfl rfl (does_load (u := (Fl r1)) (ev rfl) Try.isAgg24 (Cells.at (Blk.cells (hB10.ext E18)) 0 rfl)) rfl ?_
  refine q_is (l' := [(.agg #[(Fl r1), (Fl r3), (Fl r5)]), (Fl b), (Pt b8 0), Ud, (Pt b15 0), (Pt b8 0), (Fl r1), (Fl b), Ud, Ud, Ud, Ud, Ud, Ud, Ud, Ud, Ud, Ud]) rfl rfl (does_move (u := (Fl b)) (ev rfl)) rfl ?_
  refine seqd rfl rfl (does_float (.inr (.inr (.inl rfl))) (ev rfl) (ev rfl)) ?_; rintro _ w27 ⟨r24, rfl, h25, E26⟩
  have X28 := Ext.gr X22 E26
  show wpList _ _ _ _ (fr [(.agg #[(Fl r1), (Fl r3), (Fl r5)]), (Fl b), (Pt b8 0), Ud, (Pt b15 0), (Pt b8 0), (Fl r1), (Fl b), (Fl r24), Ud, Ud, Ud, Ud, Ud, Ud, Ud, Ud, Ud]) _
  refine q_is (l' := [(.agg #[(Fl r1), (Fl r3), (Fl r5)]), (Fl b), (Pt b8 0), Ud, (Pt b15 0), (Pt b8 0), (Fl r1), (Fl b), (Fl r24), (Pt b8 1), Ud, Ud, Ud, Ud, Ud, Ud, Ud, Ud]) rfl rfl (does_fieldAddr (ev rfl) fa26_1) rfl ?_
  refine q_is (l' := [(.agg #[(Fl r1), (Fl r3), (Fl r5)]), (Fl b), (Pt b8 0), Ud, (Pt b15 0), (Pt b8 0), (Fl r1), (Fl b), (Fl r24), (Pt b8 1), (Fl r3), Ud, Ud, Ud, Ud, Ud, Ud, Ud]) rfl rfl (does_load (u := (Fl r3)) (ev rfl) Try.isAgg24 (Cells.at (Blk.cells ((hB10.ext E18).ext E26)) 1 rfl)) rfl ?_
  refine q_is (l' := [(.agg #[(Fl r1), (Fl r3), (Fl r5)]), (Fl b), (Pt b8 0), Ud, (Pt b15 0), (Pt b8 0), (Fl r1), (Fl b), (Fl r24), (Pt b8 1), (Fl r3), (Fl b), Ud, Ud, Ud, Ud, Ud, Ud]) rfl rfl (does_move (u := (Fl b)) (ev rfl)) rfl ?_
  refine seqd rfl rfl (does_float (.inr (.inr (.inl rfl))) (ev rfl) (ev rfl)) ?_; rintro _ w32 ⟨r29, rfl, h30, E31⟩
  have X33 := Ext.gr X28 E31
  show wpList _ _ _ _ (fr [(.agg #[(Fl r1), (Fl r3), (Fl r5)]), (Fl b), (Pt b8 0), Ud, (Pt b15 0), (Pt b8 0), (Fl r1), (Fl b), (Fl r24), (Pt b8 1), (Fl r3), (Fl b), (Fl r29), Ud, Ud, Ud, Ud, Ud]) _
  refine q_is (l' := [(.agg #[(Fl r1), (Fl r3), (Fl r5)]), (Fl b), (Pt b8 0), Ud, (Pt b15 0), (Pt b8 0), (Fl r1), (Fl b), (Fl r24), (Pt b8 1), (Fl r3), (Fl b), (Fl r29), (Pt b8 2), Ud, Ud, Ud, Ud]) rfl rfl (does_fieldAddr (ev rfl) fa26_2) rfl ?_
  refine q_is (l' := [(.agg #[(Fl r1), (Fl r3), (Fl r5)]), (Fl b), (Pt b8 0), Ud, (Pt b15 0), (Pt b8 0), (Fl r1), (Fl b), (Fl r24), (Pt b8 1), (Fl r3), (Fl b), (Fl r29), (Pt b8 2), (Fl r5), Ud, Ud, Ud]) rfl rfl (does_load (u := (Fl r5)) (ev rfl) Try.isAgg24 (Cells.at (Blk.cells (((hB10.ext E18).ext E26).ext E31)) 2 rfl)) rfl ?_
  refine q_is (l' := [(.agg #[(Fl r1), (Fl r3), (Fl r5)]), (Fl b), (Pt b8 0), Ud, (Pt b15 0), (Pt b8 0), (Fl r1), (Fl b), (Fl r24), (Pt b8 1), (Fl r3), (Fl b), (Fl r29), (Pt b8 2), (Fl r5), (Fl b), Ud, Ud]) rfl rfl (does_move (u := (Fl b)) (ev rfl)) rfl ?_
  refine seqd rfl rfl (does_float (.inr (.inr (.inl rfl))) (ev rfl) (ev rfl)) ?_; rintro _ w37 ⟨r34, rfl, h35, E36⟩
  have X38 := Ext.gr X33 E36
  show wpList _ _ _ _ (fr [(.agg #[(Fl r1), (Fl r3), (Fl r5)]), (Fl b), (Pt b8 0), Ud, (Pt b15 0), (Pt b8 0), (Fl r1), (Fl b), (Fl r24), (Pt b8 1), (Fl r3), (Fl b), (Fl r29), (Pt b8 2), (Fl r5), (Fl b), (Fl r34), Ud]) _
  refine q_is (l' := [(.agg #[(Fl r1), (Fl r3), (Fl r5)]), (Fl b), (Pt b8 0), Ud, (Pt b15 0), (Pt b8 0), (Fl r1), (Fl b), (Fl r24), (Pt b8 1), (Fl r3), (Fl b), (Fl r29), (Pt b8 2), (Fl r5), (Fl b), (Fl r34), (.agg #[(Fl r24), (Fl r29), (Fl r34)])]) rfl rfl (does_build (parts' := [(0, (Fl r24)), (1, (Fl r29)), (2, (Fl r34))]) (cells := #[(Fl r24), (Fl r29), (Fl r34)]) (evp rfl) (by kernel_rfl)) rfl ?_
  refine seqn rfl rfl (does_store (n := 3) (cs := [(Fl 0), (Fl 0), (Fl 0)]) (u := (.agg #[(Fl r24), (Fl r29), (Fl r34)])) (ev rfl) (ev rfl) Try.sizeOf26 rfl (((hB17.ext E26).ext E31).ext E36) (Nat.le_of_ble_eq_true rfl) rfl) ?_; rintro _ w41 ⟨rfl, W39, hB40⟩
  change Blk _ _ [(Fl r24), (Fl r29), (Fl r34)] at hB40
  have X42 := Below.wr X38 W39 g21
  refine wpList_nil (hK23 _ _ ?_)
  refine wp_ret ?_
  refine ret_val (v := (.agg #[(Fl r24), (Fl r29), (Fl r34)])) (res_C rfl (slot rfl) (run_loadAgg (cs := [(Fl r24), (Fl r29), (Fl r34)]) Try.isAgg26 Try.sizeOf26 (Blk.cells hB40) rfl)) X42 ?_
  have x43 : cf .f32 r24 = (vscale A_a (cf .f32 b)).x := by first | with_reducible rfl | (simp only [vscale, h2, h4, h6, h25, h30, h35]; done) | (simp [vscale, h2, h4, h6, h25, h30, h35]; done) | rfl
  have x44 : cf .f32 r29 = (vscale A_a (cf .f32 b)).y := by first | with_reducible rfl | (simp only [vscale, h2, h4, h6, h25, h30, h35]; done) | (simp [vscale, h2, h4, h6, h25, h30, h35]; done) | rfl
  have x45 : cf .f32 r34 = (vscale A_a (cf .f32 b)).z := by first | with_reducible rfl | (simp only [vscale, h2, h4, h6, h25, h30, h35]; done) | (simp [vscale, h2, h4, h6, h25, h30, h35]; done) | rfl
  exact ⟨[(Fl r24), (Fl r29), (Fl r34)], rfl, ⟨r24, r29, r34, rfl, x43, x44, x45⟩⟩

/- spec.l03Unit -/
theorem c_spec_l03Unit (v : List Value) (A_v : V3) (w : World) (hv_v : RV3 w A_v v) : Gives Try.prog 84 #[(.agg v.toArray)] w (fun v w' => ∃ cs_1 : List Value, v = (.agg cs_1.toArray) ∧ RV3 w (unitF A_v) cs_1) := by
  obtain ⟨r1, r3, r5, rfl, h2, h4, h6⟩ := hv_v
  refine enter [(.agg #[(Fl r1), (Fl r3), (Fl r5)]), Ud, Ud, Ud, Ud, Ud, Ud, Ud, Ud, Ud, Ud, Ud, Ud, Ud, Ud, Ud, Ud, Ud, Ud, Ud, Ud, Ud, Ud, Ud, Ud] Try.func84 rfl Try.ntmps84 rfl ?_
  refine wp_seq_k fun K7 hK7 => ?_
  refine wp_region_lit ?_
  refine seqd rfl rfl (does_box (u := (.agg #[(Fl r1), (Fl r3), (Fl r5)])) (ev rfl)) ?_; rintro _ w12 ⟨b8, rfl, hb9, hB10, E11⟩
  have g13 : w.heap.size ≤ b8 := Nat.le_trans (Below.size (Ext.refl w)) hb9
  change Blk _ _ [(Fl r1), (Fl r3), (Fl r5)] at hB10
  have X14 := Ext.gr (Ext.refl w) E11
  show wpList _ _ _ _ (fr [(.agg #[(Fl r1), (Fl r3), (Fl r5)]), (Pt b8 0), Ud, Ud, Ud, Ud, Ud, Ud, Ud, Ud, Ud, Ud, Ud, Ud, Ud, Ud, Ud, Ud, Ud, Ud, Ud, Ud, Ud, Ud, Ud]) _
  refine seqd rfl rfl (does_alloc z26) ?_; rintro _ w19 ⟨b15, rfl, hb16, hB17, E18⟩
  have n20 : b8 < b15 := Nat.lt_of_lt_of_le (Blk.lt hB10) hb16
  have g21 : w.heap.size ≤ b15 := Nat.le_trans (Below.size X14) hb16
  change Blk _ _ [(Fl 0), (Fl 0), (Fl 0)] at hB17
  have X22 := Ext.gr X14 E18
  show wpList _ _ _ _ (fr [(.agg #[(Fl r1), (Fl r3), (Fl r5)]), (Pt b8 0), (Pt b15 0), Ud, Ud, Ud, Ud, Ud, Ud, Ud, Ud, Ud, Ud, Ud, Ud, Ud, Ud, Ud, Ud, Ud, Ud, Ud, Ud, Ud, Ud]) _
  refine wpList_nil (hK7 _ _ ?_)
  refine wp_seq_k fun K23 hK23 => ?_
  refine wp_region_lit ?_
  refine q_is (l' := [(.agg #[(Fl r1), (Fl r3), (Fl r5)]), (Pt b8 0), (Pt b15 0), Ud, Ud, (.agg #[(Fl r1), (Fl r3), (Fl r5)]), Ud, Ud, Ud, Ud, Ud, Ud, Ud, Ud, Ud, Ud, Ud, Ud, Ud, Ud, Ud, Ud, Ud, Ud, Ud]) rfl rfl (does_loadAgg (cs := [(Fl r1), (Fl r3), (Fl r5)]) (ev rfl) Try.isAgg26 Try.sizeOf26 (Blk.cells (hB10.ext E18)) rfl) rfl ?_
  refine seqd rfl rfl (does_call (args := #[(.agg #[(Fl r1), (Fl r3), (Fl r5)])]) cal98 (evs rfl) (c_spec_l01Long [(Fl r1), (Fl r3), (Fl r5)] A_v _ ⟨r1, r3, r5, rfl, h2, h4, h6⟩)) ?_; rintro _ w25 ⟨E24, ⟨r26, rfl, h27⟩⟩
  have X28 := Ext.gr X22 E24
  show wpList _ _ _ _ (fr [(.agg #[(Fl r1), (Fl r3), (Fl r5)]), (Pt b8 0), (Pt b15 0), Ud, Ud, (.agg #[(Fl r1), (Fl r3), (Fl r5)]), (Fl r26), Ud, Ud, Ud, Ud, Ud, Ud, Ud, Ud, Ud, Ud, Ud, Ud, Ud, Ud, Ud, Ud, Ud, Ud]) _
  refine q_is (l' := [(.agg #[(Fl r1), (Fl r3), (Fl r5)]), (Pt b8 0), (Pt b15 0), (Fl r26), Ud, (.agg #[(Fl r1), (Fl r3), (Fl r5)]), (Fl r26), Ud, Ud, Ud, Ud, Ud, Ud, Ud, Ud, Ud, Ud, Ud, Ud, Ud, Ud, Ud, Ud, Ud, Ud]) rfl rfl (does_assign (u := (Fl r26)) (ev rfl)) rfl ?_
  refine wpList_nil (hK23 _ _ ?_)
  refine wp_seq_k fun K29 hK29 => ?_
  refine wp_region_lit ?_
  refine q_is (l' := [(.agg #[(Fl r1), (Fl r3), (Fl r5)]), (Pt b8 0), (Pt b15 0), (Fl r26), Ud, (.agg #[(Fl r1), (Fl r3), (Fl r5)]), (Fl r26), (Fl r26), Ud, Ud, Ud, Ud, Ud, Ud, Ud, Ud, Ud, Ud, Ud, Ud, Ud, Ud, Ud, Ud, Ud]) rfl rfl (does_move (u := (Fl r26)) (ev rfl)) rfl ?_
  refine seqd rfl rfl (does_float (.inr (.inr (.inr rfl))) (ev rfl) (ev rfl)) ?_; rintro _ w33 ⟨r30, rfl, h31, E32⟩
  have X34 := Ext.gr X28 E32
  show wpList _ _ _ _ (fr [(.agg #[(Fl r1), (Fl r3), (Fl r5)]), (Pt b8 0), (Pt b15 0), (Fl r26), Ud, (.agg #[(Fl r1), (Fl r3), (Fl r5)]), (Fl r26), (Fl r26), (Fl r30), Ud, Ud, Ud, Ud, Ud, Ud, Ud, Ud, Ud, Ud, Ud, Ud, Ud, Ud, Ud, Ud]) _
  refine q_is (l' := [(.agg #[(Fl r1), (Fl r3), (Fl r5)]), (Pt b8 0), (Pt b15 0), (Fl r26), (Fl r30), (.agg #[(Fl r1), (Fl r3), (Fl r5)]), (Fl r26), (Fl r26), (Fl r30), Ud, Ud, Ud, Ud, Ud, Ud, Ud, Ud, Ud, Ud, Ud, Ud, Ud, Ud, Ud, Ud]) rfl rfl (does_assign (u := (Fl r30)) (ev rfl)) rfl ?_
  refine wpList_nil (hK29 _ _ ?_)
  refine wp_seq_k fun K35 hK35 => ?_
  refine wp_seq_k fun K36 hK36 => ?_
  obtain ⟨β1, hβ1⟩ : ∃ b : Bool, b = (fcmp .eql (ford .f32 (cf .f32 r26) (cf .f32 0))) := ⟨_, rfl⟩
  obtain ⟨β2, hβ2⟩ : ∃ b : Bool, b = (β1 || (!(finF (cf .f32 r26)))) := ⟨_, rfl⟩
  obtain ⟨β3, hβ3⟩ : ∃ b : Bool, b = (β2 || (!(finF (cf .f32 r30)))) := ⟨_, rfl⟩
  refine region_text (
    [Fact.pure [] (fun v => v = (Fl r26)),
    Fact.pure [9] (fun v => v = (Bo β1)),
    Fact.pure [10] (fun v => v = (Bo β1)),
    Fact.pure [11] (fun v => β1 = false → v = (Fl r26)),
    Fact.pure [12, 11] (fun v => β1 = false → v = (Bo (finF (cf .f32 r26)))),
    Fact.pure [13, 11] (fun v => β1 = false → v = (Bo (!(finF (cf .f32 r26))))),
    Fact.pure [11, 14] (fun v => v = (Bo β2)),
    Fact.pure [15] (fun v => v = (Bo β2)),
    Fact.pure [16] (fun v => β2 = false → v = (Fl r30)),
    Fact.pure [17, 16] (fun v => β2 = false → v = (Bo (finF (cf .f32 r30)))),
    Fact.pure [18, 16] (fun v => β2 = false → v = (Bo (!(finF (cf .f32 r30))))),
    Fact.pure [16, 19] (fun v => v = (Bo β3))]) (by simp [Fact.pure, Fact.mem]) ?_
  refine RW_d (fun v37 => [(.agg #[(Fl r1), (Fl r3), (Fl r5)]), (Pt b8 0), (Pt b15 0), (Fl r26), (Fl r30), (.agg #[(Fl r1), (Fl r3), (Fl r5)]), (Fl r26), (Fl r26), (Fl r30), v37, Ud, Ud, Ud, Ud, Ud, Ud, Ud, Ud, Ud, Ud, Ud, Ud, Ud, Ud, Ud]) rfl (fun _ => rfl) (fun u hu hF => ?_) (fun v37 => ?_)
  · clear hF
    refine doesG_un rfl ?_
    refine (does_move (u := (Fl r26)) (ev rfl)).mono ?_; rintro _ _ ⟨rfl, rfl⟩
    exact ⟨rfl, Ext.refl _⟩
  refine RW_d (fun v38 => [(.agg #[(Fl r1), (Fl r3), (Fl r5)]), (Pt b8 0), (Pt b15 0), (Fl r26), (Fl r30), (.agg #[(Fl r1), (Fl r3), (Fl r5)]), (Fl r26), (Fl r26), (Fl r30), v37, v38, Ud, Ud, Ud, Ud, Ud, Ud, Ud, Ud, Ud, Ud, Ud, Ud, Ud, Ud]) rfl (fun _ => rfl) (fun u hu hF => ?_) (fun v38 => ?_)
  · have h9_ : v37 = (Fl r26) := hF.1
    clear hF
    refine doesG_un rfl ?_
    obtain rfl := h9_
    refine (does_fcmp (.inl rfl) (ev rfl) (ev rfl)).mono ?_; rintro _ _ ⟨rfl, rfl⟩
    exact ⟨(by first | rfl | (show _ = _; simp only [hβ1])), Ext.refl _⟩
  refine RW_d (fun v39 => [(.agg #[(Fl r1), (Fl r3), (Fl r5)]), (Pt b8 0), (Pt b15 0), (Fl r26), (Fl r30), (.agg #[(Fl r1), (Fl r3), (Fl r5)]), (Fl r26), (Fl r26), (Fl r30), v37, v38, v39, Ud, Ud, Ud, Ud, Ud, Ud, Ud, Ud, Ud, Ud, Ud, Ud, Ud]) rfl (fun _ => rfl) (fun u hu hF => ?_) (fun v39 => ?_)
  · have h10_ : v38 = (Bo β1) := hF.1
    clear hF
    refine doesG_un rfl ?_
    obtain rfl := h10_
    refine (does_move (u := (Bo β1)) (ev rfl)).mono ?_; rintro _ _ ⟨rfl, rfl⟩
    exact ⟨rfl, Ext.refl _⟩
  refine RW_d (fun v40 => [(.agg #[(Fl r1), (Fl r3), (Fl r5)]), (Pt b8 0), (Pt b15 0), (Fl r26), (Fl r30), (.agg #[(Fl r1), (Fl r3), (Fl r5)]), (Fl r26), (Fl r26), (Fl r30), v37, v38, v39, v40, Ud, Ud, Ud, Ud, Ud, Ud, Ud, Ud, Ud, Ud, Ud, Ud]) rfl (fun _ => rfl) (fun u hu hF => ?_) (fun v40 => ?_)
  · have h11_ : v39 = (Bo β1) := hF.1
    clear hF
    obtain rfl := h11_
    refine doesG_g (b := β1) rfl (yld rfl rfl) (fun hg1 => ?_) (fun hc => ⟨fun hg1 => absurd hg1 hc, Ext.refl _⟩)
    refine (does_move (u := (Fl r26)) (ev rfl)).mono ?_; rintro _ _ ⟨rfl, rfl⟩
    exact ⟨fun _ => rfl, Ext.refl _⟩
  refine RW_d (fun v41 => [(.agg #[(Fl r1), (Fl r3), (Fl r5)]), (Pt b8 0), (Pt b15 0), (Fl r26), (Fl r30), (.agg #[(Fl r1), (Fl r3), (Fl r5)]), (Fl r26), (Fl r26), (Fl r30), v37, v38, v39, v40, v41, Ud, Ud, Ud, Ud, Ud, Ud, Ud, Ud, Ud, Ud, Ud]) rfl (fun _ => rfl) (fun u hu hF => ?_) (fun v41 => ?_)
  · have h12_ : β1 = false → v40 = (Fl r26) := hF.1
    have h11_ : v39 = (Bo β1) := hF.2.1
    clear hF
    obtain rfl := h11_
    refine doesG_g (b := β1) rfl (yld rfl rfl) (fun hg1 => ?_) (fun hc => ⟨fun hg1 => absurd hg1 hc, Ext.refl _⟩)
    obtain rfl := h12_ hg1
    refine (does_call (args := #[(Fl r26)]) cal94 (evs rfl) (c_spec_l01Finite r26 _)).mono ?_; rintro v u' ⟨hx, hv⟩
    exact ⟨fun _ => hv, hx⟩
  refine RW_d (fun v42 => [(.agg #[(Fl r1), (Fl r3), (Fl r5)]), (Pt b8 0), (Pt b15 0), (Fl r26), (Fl r30), (.agg #[(Fl r1), (Fl r3), (Fl r5)]), (Fl r26), (Fl r26), (Fl r30), v37, v38, v39, v40, v41, v42, Ud, Ud, Ud, Ud, Ud, Ud, Ud, Ud, Ud, Ud]) rfl (fun _ => rfl) (fun u hu hF => ?_) (fun v42 => ?_)
  · have h13_ : β1 = false → v41 = (Bo (finF (cf .f32 r26))) := hF.1
    have h11_ : v39 = (Bo β1) := hF.2.1
    clear hF
    obtain rfl := h11_
    refine doesG_g (b := β1) rfl (yld rfl rfl) (fun hg1 => ?_) (fun hc => ⟨fun hg1 => absurd hg1 hc, Ext.refl _⟩)
    obtain rfl := h13_ hg1
    refine (does_not (ev rfl)).mono ?_; rintro _ _ ⟨rfl, rfl⟩
    exact ⟨fun _ => rfl, Ext.refl _⟩
  refine RW_d (fun v43 => [(.agg #[(Fl r1), (Fl r3), (Fl r5)]), (Pt b8 0), (Pt b15 0), (Fl r26), (Fl r30), (.agg #[(Fl r1), (Fl r3), (Fl r5)]), (Fl r26), (Fl r26), (Fl r30), v37, v38, v39, v40, v41, v42, v43, Ud, Ud, Ud, Ud, Ud, Ud, Ud, Ud, Ud]) rfl (fun _ => rfl) (fun u hu hF => ?_) (fun v43 => ?_)
  · have h11_ : v39 = (Bo β1) := hF.1
    have h14_ : β1 = false → v42 = (Bo (!(finF (cf .f32 r26)))) := hF.2.1
    clear hF
    refine doesG_un rfl ?_
    skip
    obtain rfl := h11_
    refine (does_pick (b := β1) (ev rfl) (ev rfl) (ev rfl)).mono ?_; rintro _ _ ⟨rfl, rfl⟩; refine ⟨?_, Ext.refl _⟩; rw [hβ2]; skip
    cases hbb : β1 <;> simp [hbb] at h14_ ⊢
    all_goals (first | rfl | (subst h14_; rfl) | simp_all)
  refine RW_d (fun v44 => [(.agg #[(Fl r1), (Fl r3), (Fl r5)]), (Pt b8 0), (Pt b15 0), (Fl r26), (Fl r30), (.agg #[(Fl r1), (Fl r3), (Fl r5)]), (Fl r26), (Fl r26), (Fl r30), v37, v38, v39, v40, v41, v42, v43, v44, Ud, Ud, Ud, Ud, Ud, Ud, Ud, Ud]) rfl (fun _ => rfl) (fun u hu hF => ?_) (fun v44 => ?_)
  · have h15_ : v43 = (Bo β2) := hF.1
    clear hF
    refine doesG_un rfl ?_
    obtain rfl := h15_
    refine (does_move (u := (Bo β2)) (ev rfl)).mono ?_; rintro _ _ ⟨rfl, rfl⟩
    exact ⟨rfl, Ext.refl _⟩
  refine RW_d (fun v45 => [(.agg #[(Fl r1), (Fl r3), (Fl r5)]), (Pt b8 0), (Pt b15 0), (Fl r26), (Fl r30), (.agg #[(Fl r1), (Fl r3), (Fl r5)]), (Fl r26), (Fl r26), (Fl r30), v37, v38, v39, v40, v41, v42, v43, v44, v45, Ud, Ud, Ud, Ud, Ud, Ud, Ud]) rfl (fun _ => rfl) (fun u hu hF => ?_) (fun v45 => ?_)
  · have h16_ : v44 = (Bo β2) := hF.1
    clear hF
    obtain rfl := h16_
    refine doesG_g (b := β2) rfl (yld rfl rfl) (fun hg1 => ?_) (fun hc => ⟨fun hg1 => absurd hg1 hc, Ext.refl _⟩)
    refine (does_move (u := (Fl r30)) (ev rfl)).mono ?_; rintro _ _ ⟨rfl, rfl⟩
    exact ⟨fun _ => rfl, Ext.refl _⟩
  refine RW_d (fun v46 => [(.agg #[(Fl r1), (Fl r3), (Fl r5)]), (Pt b8 0), (Pt b15 0), (Fl r26), (Fl r30), (.agg #[(Fl r1), (Fl r3), (Fl r5)]), (Fl r26), (Fl r26), (Fl r30), v37, v38, v39, v40, v41, v42, v43, v44, v45, v46, Ud, Ud, Ud, Ud, Ud, Ud]) rfl (fun _ => rfl) (fun u hu hF => ?_) (fun v46 => ?_)
  · have h17_ : β2 = false → v45 = (Fl r30) := hF.1
    have h16_ : v44 = (Bo β2) := hF.2.1
    clear hF
    obtain rfl := h16_
    refine doesG_g (b := β2) rfl (yld rfl rfl) (fun hg1 => ?_) (fun hc => ⟨fun hg1 => absurd hg1 hc, Ext.refl _⟩)
    obtain rfl := h17_ hg1
    refine (does_call (args := #[(Fl r30)]) cal94 (evs rfl) (c_spec_l01Finite r30 _)).mono ?_; rintro v u' ⟨hx, hv⟩
    exact ⟨fun _ => hv, hx⟩
  refine RW_d (fun v47 => [(.agg #[(Fl r1), (Fl r3), (Fl r5)]), (Pt b8 0), (Pt b15 0), (Fl r26), (Fl r30), (.agg #[(Fl r1), (Fl r3), (Fl r5)]), (Fl r26), (Fl r26), (Fl r30), v37, v38, v39, v40, v41, v42, v43, v44, v45, v46, v47, Ud, Ud, Ud, Ud, Ud]) rfl (fun _ => rfl) (fun u hu hF => ?_) (fun v47 => ?_)
  · have h18_ : β2 = false → v46 = (Bo (finF (cf .f32 r30))) := hF.1
    have h16_ : v44 = (Bo β2) := hF.2.1
    clear hF
    obtain rfl := h16_
    refine doesG_g (b := β2) rfl (yld rfl rfl) (fun hg1 => ?_) (fun hc => ⟨fun hg1 => absurd hg1 hc, Ext.refl _⟩)
    obtain rfl := h18_ hg1
    refine (does_not (ev rfl)).mono ?_; rintro _ _ ⟨rfl, rfl⟩
    exact ⟨fun _ => rfl, Ext.refl _⟩
  refine RW_d (fun v48 => [(.agg #[(Fl r1), (Fl r3), (Fl r5)]), (Pt b8 0), (Pt b15 0), (Fl r26), (Fl r30), (.agg #[(Fl r1), (Fl r3), (Fl r5)]), (Fl r26), (Fl r26), (Fl r30), v37, v38, v39, v40, v41, v42, v43, v44, v45, v46, v47, v48, Ud, Ud, Ud, Ud]) rfl (fun _ => rfl) (fun u hu hF => ?_) (fun v48 => ?_)
  · have h16_ : v44 = (Bo β2) := hF.1
    have h19_ : β2 = false → v47 = (Bo (!(finF (cf .f32 r30)))) := hF.2.1
    clear hF
    refine doesG_un rfl ?_
    skip
    obtain rfl := h16_
    refine (does_pick (b := β2) (ev rfl) (ev rfl) (ev rfl)).mono ?_; rintro _ _ ⟨rfl, rfl⟩; refine ⟨?_, Ext.refl _⟩; rw [hβ3]; skip
    cases hbb : β2 <;> simp [hbb] at h19_ ⊢
    all_goals (first | rfl | (subst h19_; rfl) | simp_all)
  refine RW_fin ?_; intro w49 E50 hP51
  obtain ⟨⟨⟨⟨⟨⟨⟨⟨⟨⟨⟨⟨-, -⟩, -⟩, -⟩, -⟩, -⟩, -⟩, -⟩, -⟩, -⟩, -⟩, -⟩, q52⟩ := hP51
  have X53 := Ext.gr X34 E50
  have q52 : v48 = (Bo β3) := q52
  obtain rfl := q52
  show wpList _ _ _ _ (fr [(.agg #[(Fl r1), (Fl r3), (Fl r5)]), (Pt b8 0), (Pt b15 0), (Fl r26), (Fl r30), (.agg #[(Fl r1), (Fl r3), (Fl r5)]), (Fl r26), (Fl r26), (Fl r30), v37, v38, v39, v40, v41, v42, v43, v44, v45, v46, v47, (Bo β3), Ud, Ud, Ud, Ud]) _
  refine wpList_nil (hK36 _ _ ?_)
  refine wp_cond_split (t := β3) (ev rfl) (fun c54 => ?_) (fun c54 => ?_)
  · have c54' := c54
    (try simp only [hβ1, hβ2, hβ3, any2_finF] at c54')
    (try simp only [hβ1, hβ2, hβ3] at c54')
    (try simp only [icmp, Bool.and_eq_true, Bool.or_eq_true, Bool.and_eq_false_iff, Bool.or_eq_false_iff, Bool.not_eq_true', Bool.not_eq_false', decide_eq_true_eq, decide_eq_false_iff_not, beq_iff_eq, bne_iff_ne, beq_eq_false_iff_ne, bne_eq_false_iff_eq] at c54')
    refine wp_seq_k fun K55 hK55 => ?_
    refine wp_region_lit ?_
    refine q_is (l' := [(.agg #[(Fl r1), (Fl r3), (Fl r5)]), (Pt b8 0), (Pt b15 0), (Fl r26), (Fl r30), (.agg #[(Fl r1), (Fl r3), (Fl r5)]), (Fl r26), (Fl r26), (Fl r30), v37, v38, v39, v40, v41, v42, v43, v44, v45, v46, v47, (Bo β3), (.agg #[(Fl 0), (Fl 0), (Fl 0)]), Ud, Ud, Ud]) rfl rfl (does_build (parts' := []) (cells := #[(Fl 0), (Fl 0), (Fl 0)]) (evp rfl) (by kernel_rfl)) rfl ?_
    refine seqn rfl rfl (does_store (n := 3) (cs := [(Fl 0), (Fl 0), (Fl 0)]) (u := (.agg #[(Fl 0), (Fl 0), (Fl 0)])) (ev rfl) (ev rfl) Try.sizeOf26 rfl (((hB17.ext E24).ext E32).ext E50) (Nat.le_of_ble_eq_true rfl) rfl) ?_; rintro _ w58 ⟨rfl, W56, hB57⟩
    change Blk _ _ [(Fl 0), (Fl 0), (Fl 0)] at hB57
    have X59 := Below.wr X53 W56 g21
    refine wpList_nil (hK55 _ _ ?_)
    refine wp_ret ?_
    dsimp only [Exit.then, Exit.inBlock]
    refine ret_val (v := (.agg #[(Fl 0), (Fl 0), (Fl 0)])) (res_C rfl (slot rfl) (run_loadAgg (cs := [(Fl 0), (Fl 0), (Fl 0)]) Try.isAgg26 Try.sizeOf26 (Blk.cells hB57) rfl)) X59 ?_
    try simp only [h2, h4, h6, h27, h31, hβ1, hβ2, hβ3, any2_finF] at c54
    have x60 : cf .f32 0 = (unitF A_v).x := by first | (rw [unit_zero1 (by assumption)]; rfl) | (rw [unit_zero2 (by assumption)]; rfl) | (rw [unit_by1 (by assumption)]; simp only [vscale, h2, h4, h6, h27, h31, hβ1, hβ2, hβ3, c54]; done) | (rw [unit_by2 (by assumption)]; simp only [vscale, h2, h4, h6, h27, h31, hβ1, hβ2, hβ3, c54]; done)
    have x61 : cf .f32 0 = (unitF A_v).y := by first | (rw [unit_zero1 (by assumption)]; rfl) | (rw [unit_zero2 (by assumption)]; rfl) | (rw [unit_by1 (by assumption)]; simp only [vscale, h2, h4, h6, h27, h31, hβ1, hβ2, hβ3, c54]; done) | (rw [unit_by2 (by assumption)]; simp only [vscale, h2, h4, h6, h27, h31, hβ1, hβ2, hβ3, c54]; done)
    have x62 : cf .f32 0 = (unitF A_v).z := by first | (rw [unit_zero1 (by assumption)]; rfl) | (rw [unit_zero2 (by assumption)]; rfl) | (rw [unit_by1 (by assumption)]; simp only [vscale, h2, h4, h6, h27, h31, hβ1, hβ2, hβ3, c54]; done) | (rw [unit_by2 (by assumption)]; simp only [vscale, h2, h4, h6, h27, h31, hβ1, hβ2, hβ3, c54]; done)
    exact ⟨[(Fl 0), (Fl 0), (Fl 0)], rfl, ⟨0, 0, 0, rfl, x60, x61, x62⟩⟩
  have c54' := c54
  (try simp only [hβ1, hβ2, hβ3, any2_finF] at c54')
  (try simp only [hβ1, hβ2, hβ3] at c54')
  (try simp only [icmp, Bool.and_eq_true, Bool.or_eq_true, Bool.and_eq_false_iff, Bool.or_eq_false_iff, Bool.not_eq_true', Bool.not_eq_false', decide_eq_true_eq, decide_eq_false_iff_not, beq_iff_eq, bne_iff_ne, beq_eq_false_iff_ne, bne_eq_false_iff_eq] at c54')
  refine wp_skip (hK35 _ _ ?_)
  refine wp_seq_k fun K63 hK63 => ?_
  refine wp_region_lit ?_
  refine q_is (l' := [(.agg #[(Fl r1), (Fl r3), (Fl r5)]), (Pt b8 0), (Pt b15 0), (Fl r26), (Fl r30), (.agg #[(Fl r1), (Fl r3), (Fl r5)]), (Fl r26), (Fl r26), (Fl r30), v37, v38, v39, v40, v41, v42, v43, v44, v45, v46, v47, (Bo β3), Ud, (.agg #[(Fl r1), (Fl r3), (Fl r5)]), Ud, Ud]) rfl rfl (does_loadAgg (cs := [(Fl r1), (Fl r3), (Fl r5)]) (ev rfl) Try.isAgg26 Try.sizeOf26 (Blk.cells ((((hB10.ext E18).ext E24).ext E32).ext E50)) rfl) rfl ?_
  refine q_is (l' := [(.agg #[(Fl r1), (Fl r3), (Fl r5)]), (Pt b8 0), (Pt b15 0), (Fl r26), (Fl r30), (.agg #[(Fl r1), (Fl r3), (Fl r5)]), (Fl r26), (Fl r26), (Fl r30), v37, v38, v39, v40, v41, v42, v43, v44, v45, v46, v47, (Bo β3), Ud, (.agg #[(Fl r1), (Fl r3), (Fl r5)]), (Fl r30), Ud]) rfl rfl (does_move (u := (Fl r30)) (ev rfl)) rfl ?_
  refine seqd rfl rfl (does_call (args := #[(.agg #[(Fl r1), (Fl r3), (Fl r5)]), (Fl r30)]) cal86 (evs rfl) (c_spec_l01Scale [(Fl r1), (Fl r3), (Fl r5)] A_v r30 _ ⟨r1, r3, r5, rfl, h2, h4, h6⟩)) ?_; rintro _ w65 ⟨E64, ⟨_, rfl, ⟨r66, r68, r70, rfl, h67, h69, h71⟩⟩⟩
  have X72 := Ext.gr X53 E64
  show wpList _ _ _ _ (fr [(.agg #[(Fl r1), (Fl r3), (Fl r5)]), (Pt b8 0), (Pt b15 0), (Fl r26), (Fl r30), (.agg #[(Fl r1), (Fl r3), (Fl r5)]), (Fl r26), (Fl r26), (Fl r30), v37, v38, v39, v40, v41, v42, v43, v44, v45, v46, v47, (Bo β3), Ud, (.agg #[(Fl r1), (Fl r3), (Fl r5)]), (Fl r30), (.agg #[(Fl r66), (Fl r68), (Fl r70)])]) _
  refine seqn rfl rfl (does_store (n := 3) (cs := [(Fl 0), (Fl 0), (Fl 0)]) (u := (.agg #[(Fl r66), (Fl r68), (Fl r70)])) (ev rfl) (ev rfl) Try.sizeOf26 rfl ((((hB17.ext E24).ext E32).ext E50).ext E64) (Nat.le_of_ble_eq_true rfl) rfl) ?_; rintro _ w75 ⟨rfl, W73, hB74⟩
  change Blk _ _ [(Fl r66), (Fl r68), (Fl r70)] at hB74
  have X76 := Below.wr X72 W73 g21
  refine wpList_nil (hK63 _ _ ?_)
  refine wp_ret ?_
  refine ret_val (v := (.agg #[(Fl r66), (Fl r68), (Fl r70)])) (res_C rfl (slot rfl) (run_loadAgg (cs := [(Fl r66), (Fl r68), (Fl r70)]) Try.isAgg26 Try.sizeOf26 (Blk.cells hB74) rfl)) X76 ?_
  try simp only [h2, h4, h6, h27, h31, hβ1, hβ2, hβ3, h67, h69, h71, any2_finF] at c54
  have x77 : cf .f32 r66 = (unitF A_v).x := by first | (rw [unit_zero1 (by assumption)]; rfl) | (rw [unit_zero2 (by assumption)]; rfl) | (rw [unit_by1 (by assumption)]; simp only [vscale, h2, h4, h6, h27, h31, hβ1, hβ2, hβ3, h67, h69, h71, c54]; done) | (rw [unit_by2 (by assumption)]; simp only [vscale, h2, h4, h6, h27, h31, hβ1, hβ2, hβ3, h67, h69, h71, c54]; done)
  have x78 : cf .f32 r68 = (unitF A_v).y := by first | (rw [unit_zero1 (by assumption)]; rfl) | (rw [unit_zero2 (by assumption)]; rfl) | (rw [unit_by1 (by assumption)]; simp only [vscale, h2, h4, h6, h27, h31, hβ1, hβ2, hβ3, h67, h69, h71, c54]; done) | (rw [unit_by2 (by assumption)]; simp only [vscale, h2, h4, h6, h27, h31, hβ1, hβ2, hβ3, h67, h69, h71, c54]; done)
  have x79 : cf .f32 r70 = (unitF A_v).z := by first | (rw [unit_zero1 (by assumption)]; rfl) | (rw [unit_zero2 (by assumption)]; rfl) | (rw [unit_by1 (by assumption)]; simp only [vscale, h2, h4, h6, h27, h31, hβ1, hβ2, hβ3, h67, h69, h71, c54]; done) | (rw [unit_by2 (by assumption)]; simp only [vscale, h2, h4, h6, h27, h31, hβ1, hβ2, hβ3, h67, h69, h71, c54]; done)
  exact ⟨[(Fl r66), (Fl r68), (Fl r70)], rfl, ⟨r66, r68, r70, rfl, x77, x78, x79⟩⟩

/- spec.l01Less -/
theorem c_spec_l01Less (a : List Value) (A_a : V3) (b : List Value) (A_b : V3) (w : World) (hv_a : RV3 w A_a a) (hv_b : RV3 w A_b b) : Gives Try.prog 85 #[(.agg a.toArray), (.agg b.toArray)] w (fun v w' => ∃ cs_1 : List Value, v = (.agg cs_1.toArray) ∧ RV3 w (vsub A_a A_b) cs_1) := by
  obtain ⟨r1, r3, r5, rfl, h2, h4, h6⟩ := hv_a
  obtain ⟨r7, r9, r11, rfl, h8, h10, h12⟩ := hv_b
  refine enter [(.agg #[(Fl r1), (Fl r3), (Fl r5)]), (.agg #[(Fl r7), (Fl r9), (Fl r11)]), Ud, Ud, Ud, Ud, Ud, Ud, Ud, Ud, Ud, Ud, Ud, Ud, Ud, Ud, Ud, Ud, Ud, Ud, Ud] Try.func85 rfl Try.ntmps85 rfl ?_
  refine wp_seq_k fun K13 hK13 => ?_
  refine wp_region_lit ?_
  refine seqd rfl rfl (does_box (u := (.agg #[(Fl r1), (Fl r3), (Fl r5)])) (ev rfl)) ?_; rintro _ w18 ⟨b14, rfl, hb15, hB16, E17⟩
  have g19 : w.heap.size ≤ b14 := Nat.le_trans (Below.size (Ext.refl w)) hb15
  change Blk _ _ [(Fl r1), (Fl r3), (Fl r5)] at hB16
  have X20 := Ext.gr (Ext.refl w) E17
  show wpList _ _ _ _ (fr [(.agg #[(Fl r1), (Fl r3), (Fl r5)]), (.agg #[(Fl r7), (Fl r9), (Fl r11)]), (Pt b14 0), Ud, Ud, Ud, Ud, Ud, Ud, Ud, Ud, Ud, Ud, Ud, Ud, Ud, Ud, Ud, Ud, Ud, Ud]) _
  refine seqd rfl rfl (does_box (u := (.agg #[(Fl r7), (Fl r9), (Fl r11)])) (ev rfl)) ?_; rintro _ w25 ⟨b21, rfl, hb22, hB23, E24⟩
  have n26 : b14 < b21 := Nat.lt_of_lt_of_le (Blk.lt hB16) hb22
  have g27 : w.heap.size ≤ b21 := Nat.le_trans (Below.size X20) hb22
  change Blk _ _ [(Fl r7), (Fl r9), (Fl r11)] at hB23
  have X28 := Ext.gr X20 E24
  show wpList _ _ _ _ (fr [(.agg #[(Fl r1), (Fl r3), (Fl r5)]), (.agg #[(Fl r7), (Fl r9), (Fl r11)]), (Pt b14 0), (Pt b21 0), Ud, Ud, Ud, Ud, Ud, Ud, Ud, Ud, Ud, Ud, Ud, Ud, Ud, Ud, Ud, Ud, Ud]) _
  refine seqd rfl rfl (does_alloc z26) ?_; rintro _ w33 ⟨b29, rfl, hb30, hB31, E32⟩
  have n34 : b14 < b29 := Nat.lt_of_lt_of_le (Blk.lt (hB16.ext E24)) hb30
  have n35 : b21 < b29 := Nat.lt_of_lt_of_le (Blk.lt hB23) hb30
  have g36 : w.heap.size ≤ b29 := Nat.le_trans (Below.size X28) hb30
  change Blk _ _ [(Fl 0), (Fl 0), (Fl 0)] at hB31
  have X37 := Ext.gr X28 E32
  show wpList _ _ _ _ (fr [(.agg #[(Fl r1), (Fl r3), (Fl r5)]), (.agg #[(Fl r7), (Fl r9), (Fl r11)]), (Pt b14 0), (Pt b21 0), (Pt b29 0), Ud, Ud, Ud, Ud, Ud, Ud, Ud, Ud, Ud, Ud, Ud, Ud, Ud, Ud, Ud, Ud]) _
  refine wpList_nil (hK13 _ _ ?_)
  refine wp_seq_k fun K38 hK38 => ?_
  refine wp_region_lit ?_
  refine q_is (l' := [(.agg #[(Fl r1), (Fl r3), (Fl r5)]), (.agg #[(Fl r7), (Fl r9), (Fl r11)]), (Pt b14 0), (Pt b21 0), (Pt b29 0), (Pt b14 0), Ud, Ud, Ud, Ud, Ud, Ud, Ud, Ud, Ud, Ud, Ud, Ud, Ud, Ud, Ud]) rfl rfl (does_fieldAddr (ev rfl) fa26_0) rfl ?_
  refine q_is (l' := [(.agg #[(Fl r1), (Fl r3), (Fl r5)]), (.agg #[(Fl r7), (Fl r9), (Fl r11)]), (Pt b14 0), (Pt b21 0), (Pt b29 0), (Pt b14 0), (Fl r1), Ud, Ud, Ud, Ud, Ud, Ud, Ud, Ud, Ud, Ud, Ud, Ud, Ud, Ud]) rfl rfl (does_load (u := (Fl r1)) (ev rfl) Try.isAgg24 (Cells.at (Blk.cells ((hB16.ext E24).ext E32)) 0 rfl)) rfl ?_
  refine q_is (l' := [(.agg #[(Fl r1), (Fl r3), (Fl r5)]), (.agg #[(Fl r7), (Fl r9), (Fl r11)]), (Pt b14 0), (Pt b21 0), (Pt b29 0), (Pt b14 0), (Fl r1), (Pt b21 0), Ud, Ud, Ud, Ud, Ud, Ud, Ud, Ud, Ud, Ud, Ud, Ud, Ud]) rfl rfl (does_fieldAddr (ev rfl) fa26_0) rfl ?_
  refine q_is (l' := [(.agg #[(Fl r1), (Fl r3), (Fl r5)]), (.agg #[(Fl r7), (Fl r9), (Fl r11)]), (Pt b14 0), (Pt b21 0), (Pt b29 0), (Pt b14 0), (Fl r1), (Pt b21 0), (Fl r7), Ud, Ud, Ud, Ud, Ud, Ud, Ud, Ud, Ud, Ud, Ud, Ud]) rfl rfl (does_load (u := (Fl r7)) (ev rfl) Try.isAgg24 (Cells.at (Blk.cells (hB23.ext E32)) 0 rfl)) rfl ?_
  refine seqd rfl rfl (does_float (.inr (.inl rfl)) (ev rfl) (ev rfl)) ?_; rintro _ w42 ⟨r39, rfl, h40, E41⟩
  have X43 := Ext.gr X37 E41
  show wpList _ _ _ _ (fr [(.agg #[(Fl r1), (Fl r3), (Fl r5)]), (.agg #[(Fl r7), (Fl r9), (Fl r11)]), (Pt b14 0), (Pt b21 0), (Pt b29 0), (Pt b14 0), (Fl r1), (Pt b21 0), (Fl r7), (Fl r39), Ud, Ud, Ud, Ud, Ud, Ud, Ud, Ud, Ud, Ud, Ud]) _
  refine q_is (l' := [(.agg #[(Fl r1), (Fl r3), (Fl r5)]), (.agg #[(Fl r7), (Fl r9), (Fl r11)]), (Pt b14 0), (Pt b21 0), (Pt b29 0), (Pt b14 0), (Fl r1), (Pt b21 0), (Fl r7), (Fl r39), (Pt b14 1), Ud, Ud, Ud, Ud, Ud, Ud, Ud, Ud, Ud, Ud]) rfl rfl (does_fieldAddr (ev rfl) fa26_1) rfl ?_
  refine q_is (l' := [(.agg #[(Fl r1), (Fl r3), (Fl r5)]), (.agg #[(Fl r7), (Fl r9), (Fl r11)]), (Pt b14 0), (Pt b21 0), (Pt b29 0), (Pt b14 0), (Fl r1), (Pt b21 0), (Fl r7), (Fl r39), (Pt b14 1), (Fl r3), Ud, Ud, Ud, Ud, Ud, Ud, Ud, Ud, Ud]) rfl rfl (does_load (u := (Fl r3)) (ev rfl) Try.isAgg24 (Cells.at (Blk.cells (((hB16.ext E24).ext E32).ext E41)) 1 rfl)) rfl ?_
  refine q_is (l' := [(.agg #[(Fl r1), (Fl r3), (Fl r5)]), (.agg #[(Fl r7), (Fl r9), (Fl r11)]), (Pt b14 0), (Pt b21 0), (Pt b29 0), (Pt b14 0), (Fl r1), (Pt b21 0), (Fl r7), (Fl r39), (Pt b14 1), (Fl r3), (Pt b21 1), Ud, Ud, Ud, Ud, Ud, Ud, Ud, Ud]) rfl rfl (does_fieldAddr (ev rfl) fa26_1) rfl ?_
  refine q_is (l' := [(.agg #[(Fl r1), (Fl r3), (Fl r5)]), (.agg #[(Fl r7), (Fl r9), (Fl r11)]), (Pt b14 0), (Pt b21 0), (Pt b29 0), (Pt b14 0), (Fl r1), (Pt b21 0), (Fl r7), (Fl r39), (Pt b14 1), (Fl r3), (Pt b21 1), (Fl r9), Ud, Ud, Ud, Ud, Ud, Ud, Ud]) rfl rfl (does_load (u := (Fl r9)) (ev rfl) Try.isAgg24 (Cells.at (Blk.cells ((hB23.ext E32).ext E41)) 1 rfl)) rfl ?_
  refine seqd rfl rfl (does_float (.inr (.inl rfl)) (ev rfl) (ev rfl)) ?_; rintro _ w47 ⟨r44, rfl, h45, E46⟩
  have X48 := Ext.gr X43 E46
  show wpList _ _ _ _ (fr [(.agg #[(Fl r1), (Fl r3), (Fl r5)]), (.agg #[(Fl r7), (Fl r9), (Fl r11)]), (Pt b14 0), (Pt b21 0), (Pt b29 0), (Pt b14 0), (Fl r1), (Pt b21 0), (Fl r7), (Fl r39), (Pt b14 1), (Fl r3), (Pt b21 1), (Fl r9), (Fl r44), Ud, Ud, Ud, Ud, Ud, Ud]) _
  refine q_is (l' := [(.agg #[(Fl r1), (Fl r3), (Fl r5)]), (.agg #[(Fl r7), (Fl r9), (Fl r11)]), (Pt b14 0), (Pt b21 0), (Pt b29 0), (Pt b14 0), (Fl r1), (Pt b21 0), (Fl r7), (Fl r39), (Pt b14 1), (Fl r3), (Pt b21 1), (Fl r9), (Fl r44), (Pt b14 2), Ud, Ud, Ud, Ud, Ud]) rfl rfl (does_fieldAddr (ev rfl) fa26_2) rfl ?_
  refine q_is (l' := [(.agg #[(Fl r1), (Fl r3), (Fl r5)]), (.agg #[(Fl r7), (Fl r9), (Fl r11)]), (Pt b14 0), (Pt b21 0), (Pt b29 0), (Pt b14 0), (Fl r1), (Pt b21 0), (Fl r7), (Fl r39), (Pt b14 1), (Fl r3), (Pt b21 1), (Fl r9), (Fl r44), (Pt b14 2), (Fl r5), Ud, Ud, Ud, Ud]) rfl rfl (does_load (u := (Fl r5)) (ev rfl) Try.isAgg24 (Cells.at (Blk.cells ((((hB16.ext E24).ext E32).ext E41).ext E46)) 2 rfl)) rfl ?_
  refine q_is (l' := [(.agg #[(Fl r1), (Fl r3), (Fl r5)]), (.agg #[(Fl r7), (Fl r9), (Fl r11)]), (Pt b14 0), (Pt b21 0), (Pt b29 0), (Pt b14 0), (Fl r1), (Pt b21 0), (Fl r7), (Fl r39), (Pt b14 1), (Fl r3), (Pt b21 1), (Fl r9), (Fl r44), (Pt b14 2), (Fl r5), (Pt b21 2), Ud, Ud, Ud]) rfl rfl (does_fieldAddr (ev rfl) fa26_2) rfl ?_
  refine q_is (l' := [(.agg #[(Fl r1), (Fl r3), (Fl r5)]), (.agg #[(Fl r7), (Fl r9), (Fl r11)]), (Pt b14 0), (Pt b21 0), (Pt b29 0), (Pt b14 0), (Fl r1), (Pt b21 0), (Fl r7), (Fl r39), (Pt b14 1), (Fl r3), (Pt b21 1), (Fl r9), (Fl r44), (Pt b14 2), (Fl r5), (Pt b21 2), (Fl r11), Ud, Ud]) rfl rfl (does_load (u := (Fl r11)) (ev rfl) Try.isAgg24 (Cells.at (Blk.cells (((hB23.ext E32).ext E41).ext E46)) 2 rfl)) rfl ?_
  refine seqd rfl rfl (does_float (.inr (.inl rfl)) (ev rfl) (ev rfl)) ?_; rintro _ w52 ⟨r49, rfl, h50, E51⟩
  have X53 := Ext.gr X48 E51
  show wpList _ _ _ _ (fr [(.agg #[(Fl r1), (Fl r3), (Fl r5)]), (.agg #[(Fl r7), (Fl r9), (Fl r11)]), (Pt b14 0), (Pt b21 0), (Pt b29 0), (Pt b14 0), (Fl r1), (Pt b21 0), (Fl r7), (Fl r39), (Pt b14 1), (Fl r3), (Pt b21 1), (Fl r9), (Fl r44), (Pt b14 2), (Fl r5), (Pt b21 2), (Fl r11), (Fl r49), Ud]) _
  refine q_is (l' := [(.agg #[(Fl r1), (Fl r3), (Fl r5)]), (.agg #[(Fl r7), (Fl r9), (Fl r11)]), (Pt b14 0), (Pt b21 0), (Pt b29 0), (Pt b14 0), (Fl r1), (Pt b21 0), (Fl r7), (Fl r39), (Pt b14 1), (Fl r3), (Pt b21 1), (Fl r9), (Fl r44), (Pt b14 2), (Fl r5), (Pt b21 2), (Fl r11), (Fl r49), (.agg #[(Fl r39), (Fl r44), (Fl r49)])]) rfl rfl (does_build (parts' := [(0, (Fl r39)), (1, (Fl r44)), (2, (Fl r49))]) (cells := #[(Fl r39), (Fl r44), (Fl r49)]) (evp rfl) (by kernel_rfl)) rfl ?_
  refine seqn rfl rfl (does_store (n := 3) (cs := [(Fl 0), (Fl 0), (Fl 0)]) (u := (.agg #[(Fl r39), (Fl r44), (Fl r49)])) (ev rfl) (ev rfl) Try.sizeOf26 rfl (((hB31.ext E41).ext E46).ext E51) (Nat.le_of_ble_eq_true rfl) rfl) ?_; rintro _ w56 ⟨rfl, W54, hB55⟩
  change Blk _ _ [(Fl r39), (Fl r44), (Fl r49)] at hB55
  have X57 := Below.wr X53 W54 g36
  refine wpList_nil (hK38 _ _ ?_)
  refine wp_ret ?_
  refine ret_val (v := (.agg #[(Fl r39), (Fl r44), (Fl r49)])) (res_C rfl (slot rfl) (run_loadAgg (cs := [(Fl r39), (Fl r44), (Fl r49)]) Try.isAgg26 Try.sizeOf26 (Blk.cells hB55) rfl)) X57 ?_
  have x58 : cf .f32 r39 = (vsub A_a A_b).x := by first | with_reducible rfl | (simp only [vsub, h2, h4, h6, h8, h10, h12, h40, h45, h50]; done) | (simp [vsub, h2, h4, h6, h8, h10, h12, h40, h45, h50]; done) | rfl
  have x59 : cf .f32 r44 = (vsub A_a A_b).y := by first | with_reducible rfl | (simp only [vsub, h2, h4, h6, h8, h10, h12, h40, h45, h50]; done) | (simp [vsub, h2, h4, h6, h8, h10, h12, h40, h45, h50]; done) | rfl
  have x60 : cf .f32 r49 = (vsub A_a A_b).z := by first | with_reducible rfl | (simp only [vsub, h2, h4, h6, h8, h10, h12, h40, h45, h50]; done) | (simp [vsub, h2, h4, h6, h8, h10, h12, h40, h45, h50]; done) | rfl
  exact ⟨[(Fl r39), (Fl r44), (Fl r49)], rfl, ⟨r39, r44, r49, rfl, x58, x59, x60⟩⟩

/- spec.l01Cross -/
theorem c_spec_l01Cross (a : List Value) (A_a : V3) (b : List Value) (A_b : V3) (w : World) (hv_a : RV3 w A_a a) (hv_b : RV3 w A_b b) : Gives Try.prog 105 #[(.agg a.toArray), (.agg b.toArray)] w (fun v w' => ∃ cs_1 : List Value, v = (.agg cs_1.toArray) ∧ RV3 w (crossF A_a A_b) cs_1) := by
  obtain ⟨r1, r3, r5, rfl, h2, h4, h6⟩ := hv_a
  obtain ⟨r7, r9, r11, rfl, h8, h10, h12⟩ := hv_b
  refine enter [(.agg #[(Fl r1), (Fl r3), (Fl r5)]), (.agg #[(Fl r7), (Fl r9), (Fl r11)]), Ud, Ud, Ud, Ud, Ud, Ud, Ud, Ud, Ud, Ud, Ud, Ud, Ud, Ud, Ud, Ud, Ud, Ud, Ud, Ud, Ud, Ud, Ud, Ud, Ud, Ud, Ud, Ud, Ud, Ud, Ud, Ud, Ud, Ud, Ud, Ud, Ud] Try.func105 rfl Try.ntmps105 rfl ?_
  refine wp_seq_k fun K13 hK13 => ?_
  refine wp_region_lit ?_
  refine seqd rfl rfl (does_box (u := (.agg #[(Fl r1), (Fl r3), (Fl r5)])) (ev rfl)) ?_; rintro _ w18 ⟨b14, rfl, hb15, hB16, E17⟩
  have g19 : w.heap.size ≤ b14 := Nat.le_trans (Below.size (Ext.refl w)) hb15
  change Blk _ _ [(Fl r1), (Fl r3), (Fl r5)] at hB16
  have X20 := Ext.gr (Ext.refl w) E17
  show wpList _ _ _ _ (fr [(.agg #[(Fl r1), (Fl r3), (Fl r5)]), (.agg #[(Fl r7), (Fl r9), (Fl r11)]), (Pt b14 0), Ud, Ud, Ud, Ud, Ud, Ud, Ud, Ud, Ud, Ud, Ud, Ud, Ud, Ud, Ud, Ud, Ud, Ud, Ud, Ud, Ud, Ud, Ud, Ud, Ud, Ud, Ud, Ud, Ud, Ud, Ud, Ud, Ud, Ud, Ud, Ud]) _
  refine seqd rfl rfl (does_box (u := (.agg #[(Fl r7), (Fl r9), (Fl r11)])) (ev rfl)) ?_; rintro _ w25 ⟨b21, rfl, hb22, hB23, E24⟩
  have n26 : b14 < b21 := Nat.lt_of_lt_of_le (Blk.lt hB16) hb22
  have g27 : w.heap.size ≤ b21 := Nat.le_trans (Below.size X20) hb22
  change Blk _ _ [(Fl r7), (Fl r9), (Fl r11)] at hB23
  have X28 := Ext.gr X20 E24
  show wpList _ _ _ _ (fr [(.agg #[(Fl r1), (Fl r3), (Fl r5)]), (.agg #[(Fl r7), (Fl r9), (Fl r11)]), (Pt b14 0), (Pt b21 0), Ud, Ud, Ud, Ud, Ud, Ud, Ud, Ud, Ud, Ud, Ud, Ud, Ud, Ud, Ud, Ud, Ud, Ud, Ud, Ud, Ud, Ud, Ud, Ud, Ud, Ud, Ud, Ud, Ud, Ud, Ud, Ud, Ud, Ud, Ud]) _
  refine seqd rfl rfl (does_alloc z26) ?_; rintro _ w33 ⟨b29, rfl, hb30, hB31, E32⟩
  have n34 : b14 < b29 := Nat.lt_of_lt_of_le (Blk.lt (hB16.ext E24)) hb30
  have n35 : b21 < b29 := Nat.lt_of_lt_of_le (Blk.lt hB23) hb30
  have g36 : w.heap.size ≤ b29 := Nat.le_trans (Below.size X28) hb30
  change Blk _ _ [(Fl 0), (Fl 0), (Fl 0)] at hB31
  have X37 := Ext.gr X28 E32
  show wpList _ _ _ _ (fr [(.agg #[(Fl r1), (Fl r3), (Fl r5)]), (.agg #[(Fl r7), (Fl r9), (Fl r11)]), (Pt b14 0), (Pt b21 0), (Pt b29 0), Ud, Ud, Ud, Ud, Ud, Ud, Ud, Ud, Ud, Ud, Ud, Ud, Ud, Ud, Ud, Ud, Ud, Ud, Ud, Ud, Ud, Ud, Ud, Ud, Ud, Ud, Ud, Ud, Ud, Ud, Ud, Ud, Ud, Ud]) _
  refine wpList_nil (hK13 _ _ ?_)
  refine wp_seq_k fun K38 hK38 => ?_
  refine wp_region_lit ?_
  refine q_is (l' := [(.agg #[(Fl r1), (Fl r3), (Fl r5)]), (.agg #[(Fl r7), (Fl r9), (Fl r11)]), (Pt b14 0), (Pt b21 0), (Pt b29 0), (Pt b14 1), Ud, Ud, Ud, Ud, Ud, Ud, Ud, Ud, Ud, Ud, Ud, Ud, Ud, Ud, Ud, Ud, Ud, Ud, Ud, Ud, Ud, Ud, Ud, Ud, Ud, Ud, Ud, Ud, Ud, Ud, Ud, Ud, Ud]) rfl rfl (does_fieldAddr (ev rfl) fa26_1) rfl ?_
  refine q_is (l' := [(.agg #[(Fl r1), (Fl r3), (Fl r5)]), (.agg #[(Fl r7), (Fl r9), (Fl r11)]), (Pt b14 0), (Pt b21 0), (Pt b29 0), (Pt b14 1), (Fl r3), Ud, Ud, Ud, Ud, Ud, Ud, Ud, Ud, Ud, Ud, Ud, Ud, Ud, Ud, Ud, Ud, Ud, Ud, Ud, Ud, Ud, Ud, Ud, Ud, Ud, Ud, Ud, Ud, Ud, Ud, Ud, Ud]) rfl rfl (does_load (u := (Fl r3)) (ev rfl) Try.isAgg24 (Cells.at (Blk.cells ((hB16.ext E24).ext E32)) 1 rfl)) rfl ?_
  refine q_is (l' := [(.agg #[(Fl r1), (Fl r3), (Fl r5)]), (.agg #[(Fl r7), (Fl r9), (Fl r11)]), (Pt b14 0), (Pt b21 0), (Pt b29 0), (Pt b14 1), (Fl r3), (Pt b21 2), Ud, Ud, Ud, Ud, Ud, Ud, Ud, Ud, Ud, Ud, Ud, Ud, Ud, Ud, Ud, Ud, Ud, Ud, Ud, Ud, Ud, Ud, Ud, Ud, Ud, Ud, Ud, Ud, Ud, Ud, Ud]) rfl rfl (does_fieldAddr (ev rfl) fa26_2) rfl ?_
  refine q_is (l' := [(.agg #[(Fl r1), (Fl r3), (Fl r5)]), (.agg #[(Fl r7), (Fl r9), (Fl r11)]), (Pt b14 0), (Pt b21 0), (Pt b29 0), (Pt b14 1), (Fl r3), (Pt b21 2), (Fl r11), Ud, Ud, Ud, Ud, Ud, Ud, Ud, Ud, Ud, Ud, Ud, Ud, Ud, Ud, Ud, Ud, Ud, Ud, Ud, Ud, Ud, Ud, Ud, Ud, Ud, Ud, Ud, Ud, Ud, Ud]) rfl rfl (does_load (u := (Fl r11)) (ev rfl) Try.isAgg24 (Cells.at (Blk.cells (hB23.ext E32)) 2 rfl)) rfl ?_
  refine seqd rfl rfl (does_float (.inr (.inr (.inl rfl))) (ev rfl) (ev rfl)) ?_; rintro _ w42 ⟨r39, rfl, h40, E41⟩
  have X43 := Ext.gr X37 E41
  show wpList _ _ _ _ (fr [(.agg #[(Fl r1), (Fl r3), (Fl r5)]), (.agg #[(Fl r7), (Fl r9), (Fl r11)]), (Pt b14 0), (Pt b21 0), (Pt b29 0), (Pt b14 1), (Fl r3), (Pt b21 2), (Fl r11), (Fl r39), Ud, Ud, Ud, Ud, Ud, Ud, Ud, Ud, Ud, Ud, Ud, Ud, Ud, Ud, Ud, Ud, Ud, Ud, Ud, Ud, Ud, Ud, Ud, Ud, Ud, Ud, Ud, Ud, Ud]) _
  refine q_is (l' := [(.agg #[(Fl r1), (Fl r3), (Fl r5)]), (.agg #[(Fl r7), (Fl r9), (Fl r11)]), (Pt b14 0), (Pt b21 0), (Pt b29 0), (Pt b14 1), (Fl r3), (Pt b21 2), (Fl r11), (Fl r39), (Pt b14 2), Ud, Ud, Ud, Ud, Ud, Ud, Ud, Ud, Ud, Ud, Ud, Ud, Ud, Ud, Ud, Ud, Ud, Ud, Ud, Ud, Ud, Ud, Ud, Ud, Ud, Ud, Ud, Ud]) rfl rfl (does_fieldAddr (ev rfl) fa26_2) rfl ?_
  refine q_is (l' := [(.agg #[(Fl r1), (Fl r3), (Fl r5)]), (.agg #[(Fl r7), (Fl r9), (Fl r11)]), (Pt b14 0), (Pt b21 0), (Pt b29 0), (Pt b14 1), (Fl r3), (Pt b21 2), (Fl r11), (Fl r39), (Pt b14 2), (Fl r5), Ud, Ud, Ud, Ud, Ud, Ud, Ud, Ud, Ud, Ud, Ud, Ud, Ud, Ud, Ud, Ud, Ud, Ud, Ud, Ud, Ud, Ud, Ud, Ud, Ud, Ud, Ud]) rfl rfl (does_load (u := (Fl r5)) (ev rfl) Try.isAgg24 (Cells.at (Blk.cells (((hB16.ext E24).ext E32).ext E41)) 2 rfl)) rfl ?_
  refine q_is (l' := [(.agg #[(Fl r1), (Fl r3), (Fl r5)]), (.agg #[(Fl r7), (Fl r9), (Fl r11)]), (Pt b14 0), (Pt b21 0), (Pt b29 0), (Pt b14 1), (Fl r3), (Pt b21 2), (Fl r11), (Fl r39), (Pt b14 2), (Fl r5), (Pt b21 1), Ud, Ud, Ud, Ud, Ud, Ud, Ud, Ud, Ud, Ud, Ud, Ud, Ud, Ud, Ud, Ud, Ud, Ud, Ud, Ud, Ud, Ud, Ud, Ud, Ud, Ud]) rfl rfl (does_fieldAddr (ev rfl) fa26_1) rfl ?_
  refine q_is (l' := [(.agg #[(Fl r1), (Fl r3), (Fl r5)]), (.agg #[(Fl r7), (Fl r9), (Fl r11)]), (Pt b14 0), (Pt b21 0), (Pt b29 0), (Pt b14 1), (Fl r3), (Pt b21 2), (Fl r11), (Fl r39), (Pt b14 2), (Fl r5), (Pt b21 1), (Fl r9), Ud, Ud, Ud, Ud, Ud, Ud, Ud, Ud, Ud, Ud, Ud, Ud, Ud, Ud, Ud, Ud, Ud, Ud, Ud, Ud, Ud, Ud, Ud, Ud, Ud]) rfl rfl (does_load (u := (Fl r9)) (ev rfl) Try.isAgg24 (Cells.at (Blk.cells ((hB23.ext E32).ext E41)) 1 rfl)) rfl ?_
  refine seqd rfl rfl (does_float (.inr (.inr (.inl rfl))) (ev rfl) (ev rfl)) ?_; rintro _ w47 ⟨r44, rfl, h45, E46⟩
  have X48 := Ext.gr X43 E46
  show wpList _ _ _ _ (fr [(.agg #[(Fl r1), (Fl r3), (Fl r5)]), (.agg #[(Fl r7), (Fl r9), (Fl r11)]), (Pt b14 0), (Pt b21 0), (Pt b29 0), (Pt b14 1), (Fl r3), (Pt b21 2), (Fl r11), (Fl r39), (Pt b14 2), (Fl r5), (Pt b21 1), (Fl r9), (Fl r44), Ud, Ud, Ud, Ud, Ud, Ud, Ud, Ud, Ud, Ud, Ud, Ud, Ud, Ud, Ud, Ud, Ud, Ud, Ud, Ud, Ud, Ud, Ud, Ud]) _
  refine seqd rfl rfl (does_float (.inr (.inl rfl)) (ev rfl) (ev rfl)) ?_; rintro _ w52 ⟨r49, rfl, h50, E51⟩
  have X53 := Ext.gr X48 E51
  show wpList _ _ _ _ (fr [(.agg #[(Fl r1), (Fl r3), (Fl r5)]), (.agg #[(Fl r7), (Fl r9), (Fl r11)]), (Pt b14 0), (Pt b21 0), (Pt b29 0), (Pt b14 1), (Fl r3), (Pt b21 2), (Fl r11), (Fl r39), (Pt b14 2), (Fl r5), (Pt b21 1), (Fl r9), (Fl r44), (Fl r49), Ud, Ud, Ud, Ud, Ud, Ud, Ud, Ud, Ud, Ud, Ud, Ud, Ud, Ud, Ud, Ud, Ud, Ud, Ud, Ud, Ud, Ud, Ud]) _
  refine q_is (l' := [(.agg #[(Fl r1), (Fl r3), (Fl r5)]), (.agg #[(Fl r7), (Fl r9), (Fl r11)]), (Pt b14 0), (Pt b21 0), (Pt b29 0), (Pt b14 1), (Fl r3), (Pt b21 2), (Fl r11), (Fl r39), (Pt b14 2), (Fl r5), (Pt b21 1), (Fl r9), (Fl r44), (Fl r49), (Pt b14 2), Ud, Ud, Ud, Ud, Ud, Ud, Ud, Ud, Ud, Ud, Ud, Ud, Ud, Ud, Ud, Ud, Ud, Ud, Ud, Ud, Ud, Ud]) rfl rfl (does_fieldAddr (ev rfl) fa26_2) rfl ?_
  refine q_is (l' := [(.agg #[(Fl r1), (Fl r3), (Fl r5)]), (.agg #[(Fl r7), (Fl r9), (Fl r11)]), (Pt b14 0), (Pt b21 0), (Pt b29 0), (Pt b14 1), (Fl r3), (Pt b21 2), (Fl r11), (Fl r39), (Pt b14 2), (Fl r5), (Pt b21 1), (Fl r9), (Fl r44), (Fl r49), (Pt b14 2), (Fl r5), Ud, Ud, Ud, Ud, Ud, Ud, Ud, Ud, Ud, Ud, Ud, Ud, Ud, Ud, Ud, Ud, Ud, Ud, Ud, Ud, Ud]) rfl rfl (does_load (u := (Fl r5)) (ev rfl) Try.isAgg24 (Cells.at (Blk.cells (((((hB16.ext E24).ext E32).ext E41).ext E46).ext E51)) 2 rfl)) rfl ?_
  refine q_is (l' := [(.agg #[(Fl r1), (Fl r3), (Fl r5)]), (.agg #[(Fl r7), (Fl r9), (Fl r11)]), (Pt b14 0), (Pt b21 0), (Pt b29 0), (Pt b14 1), (Fl r3), (Pt b21 2), (Fl r11), (Fl r39), (Pt b14 2), (Fl r5), (Pt b21 1), (Fl r9), (Fl r44), (Fl r49), (Pt b14 2), (Fl r5), (Pt b21 0), Ud, Ud, Ud, Ud, Ud, Ud, Ud, Ud, Ud, Ud, Ud, Ud, Ud, Ud, Ud, Ud, Ud, Ud, Ud, Ud]) rfl rfl (does_fieldAddr (ev rfl) fa26_0) rfl ?_
  refine q_is (l' := [(.agg #[(Fl r1), (Fl r3), (Fl r5)]), (.agg #[(Fl r7), (Fl r9), (Fl r11)]), (Pt b14 0), (Pt b21 0), (Pt b29 0), (Pt b14 1), (Fl r3), (Pt b21 2), (Fl r11), (Fl r39), (Pt b14 2), (Fl r5), (Pt b21 1), (Fl r9), (Fl r44), (Fl r49), (Pt b14 2), (Fl r5), (Pt b21 0), (Fl r7), Ud, Ud, Ud, Ud, Ud, Ud, Ud, Ud, Ud, Ud, Ud, Ud, Ud, Ud, Ud, Ud, Ud, Ud, Ud]) rfl rfl (does_load (u := (Fl r7)) (ev rfl) Try.isAgg24 (Cells.at (Blk.cells ((((hB23.ext E32).ext E41).ext E46).ext E51)) 0 rfl)) rfl ?_
  refine seqd rfl rfl (does_float (.inr (.inr (.inl rfl))) (ev rfl) (ev rfl)) ?_; rintro _ w57 ⟨r54, rfl, h55, E56⟩
  have X58 := Ext.gr X53 E56
  show wpList _ _ _ _ (fr [(.agg #[(Fl r1), (Fl r3), (Fl r5)]), (.agg #[(Fl r7), (Fl r9), (Fl r11)]), (Pt b14 0), (Pt b21 0), (Pt b29 0), (Pt b14 1), (Fl r3), (Pt b21 2), (Fl r11), (Fl r39), (Pt b14 2), (Fl r5), (Pt b21 1), (Fl r9), (Fl r44), (Fl r49), (Pt b14 2), (Fl r5), (Pt b21 0), (Fl r7), (Fl r54), Ud, Ud, Ud, Ud, Ud, Ud, Ud, Ud, Ud, Ud, Ud, Ud, Ud, Ud, Ud, Ud, Ud, Ud]) _
  refine q_is (l' := [(.agg #[(Fl r1), (Fl r3), (Fl r5)]), (.agg #[(Fl r7), (Fl r9), (Fl r11)]), (Pt b14 0), (Pt b21 0), (Pt b29 0), (Pt b14 1), (Fl r3), (Pt b21 2), (Fl r11), (Fl r39), (Pt b14 2), (Fl r5), (Pt b21 1), (Fl r9), (Fl r44), (Fl r49), (Pt b14 2), (Fl r5), (Pt b21 0), (Fl r7), (Fl r54), (Pt b14 0), Ud, Ud, Ud, Ud, Ud, Ud, Ud, Ud, Ud, Ud, Ud, Ud, Ud, Ud, Ud, Ud, Ud]) rfl rfl (does_fieldAddr (ev rfl) fa26_0) rfl ?_
  refine q_is (l' := [(.agg #[(Fl r1), (Fl r3), (Fl r5)]), (.agg #[(Fl r7), (Fl r9), (Fl r11)]), (Pt b14 0), (Pt b21 0), (Pt b29 0), (Pt b14 1), (Fl r3), (Pt b21 2), (Fl r11), (Fl r39), (Pt b14 2), (Fl r5), (Pt b21 1), (Fl r9), (Fl r44), (Fl r49), (Pt b14 2), (Fl r5), (Pt b21 0), (Fl r7), (Fl r54), (Pt b14 0), (Fl r1), Ud, Ud, Ud, Ud, Ud, Ud, Ud, Ud, Ud, Ud, Ud, Ud, Ud, Ud, Ud, Ud]) rfl rfl (does_load (u := (Fl r1)) (ev rfl) Try.isAgg24 (Cells.at (Blk.cells ((((((hB16.ext E24).ext E32).ext E41).ext E46).ext E51).ext E56)) 0 rfl)) rfl ?_
  refine q_is (l' := [(.agg #[(Fl r1), (Fl r3), (Fl r5)]), (.agg #[(Fl r7), (Fl r9), (Fl r11)]), (Pt b14 0), (Pt b21 0), (Pt b29 0), (Pt b14 1), (Fl r3), (Pt b21 2), (Fl r11), (Fl r39), (Pt b14 2), (Fl r5), (Pt b21 1), (Fl r9), (Fl r44), (Fl r49), (Pt b14 2), (Fl r5), (Pt b21 0), (Fl r7), (Fl r54), (Pt b14 0), (Fl r1), (Pt b21 2), Ud, Ud, Ud, Ud, Ud, Ud, Ud, Ud, Ud, Ud, Ud, Ud, Ud, Ud, Ud]) rfl rfl (does_fieldAddr (ev rfl) fa26_2) rfl ?_
  refine q_is (l' := [(.agg #[(Fl r1), (Fl r3), (Fl r5)]), (.agg #[(Fl r7), (Fl r9), (Fl r11)]), (Pt b14 0), (Pt b21 0), (Pt b29 0), (Pt b14 1), (Fl r3), (Pt b21 2), (Fl r11), (Fl r39), (Pt b14 2), (Fl r5), (Pt b21 1), (Fl r9), (Fl r44), (Fl r49), (Pt b14 2), (Fl r5), (Pt b21 0), (Fl r7), (Fl r54), (Pt b14 0), (Fl r1), (Pt b21 2), (Fl r11), Ud, Ud, Ud, Ud, Ud, Ud, Ud, Ud, Ud, Ud, Ud, Ud, Ud, Ud]) rfl rfl (does_load (u := (Fl r11)) (ev rfl) Try.isAgg24 (Cells.at (Blk.cells (((((hB23.ext E32).ext E41).ext E46).ext E51).ext E56)) 2 rfl)) rfl ?_
  refine seqd rfl rfl (does_float (.inr (.inr (.inl rfl))) (ev rfl) (ev rfl)) ?_; rintro _ w62 ⟨r59, rfl, h60, E61⟩
  have X63 := Ext.gr X58 E61
  show wpList _ _ _ _ (fr [(.agg #[(Fl r1), (Fl r3), (Fl r5)]), (.agg #[(Fl r7), (Fl r9), (Fl r11)]), (Pt b14 0), (Pt b21 0), (Pt b29 0), (Pt b14 1), (Fl r3), (Pt b21 2), (Fl r11), (Fl r39), (Pt b14 2), (Fl r5), (Pt b21 1), (Fl r9), (Fl r44), (Fl r49), (Pt b14 2), (Fl r5), (Pt b21 0), (Fl r7), (Fl r54), (Pt b14 0), (Fl r1), (Pt b21 2), (Fl r11), (Fl r59), Ud, Ud, Ud, Ud, Ud, Ud, Ud, Ud, Ud, Ud, Ud, Ud, Ud]) _
  refine seqd rfl rfl (does_float (.inr (.inl rfl)) (ev rfl) (ev rfl)) ?_; rintro _ w67 ⟨r64, rfl, h65, E66⟩
  have X68 := Ext.gr X63 E66
  show wpList _ _ _ _ (fr [(.agg #[(Fl r1), (Fl r3), (Fl r5)]), (.agg #[(Fl r7), (Fl r9), (Fl r11)]), (Pt b14 0), (Pt b21 0), (Pt b29 0), (Pt b14 1), (Fl r3), (Pt b21 2), (Fl r11), (Fl r39), (Pt b14 2), (Fl r5), (Pt b21 1), (Fl r9), (Fl r44), (Fl r49), (Pt b14 2), (Fl r5), (Pt b21 0), (Fl r7), (Fl r54), (Pt b14 0), (Fl r1), (Pt b21 2), (Fl r11), (Fl r59), (Fl r64), Ud, Ud, Ud, Ud, Ud, Ud, Ud, Ud, Ud, Ud, Ud, Ud]) _
  refine q_is (l' := [(.agg #[(Fl r1), (Fl r3), (Fl r5)]), (.agg #[(Fl r7), (Fl r9), (Fl r11)]), (Pt b14 0), (Pt b21 0), (Pt b29 0), (Pt b14 1), (Fl r3), (Pt b21 2), (Fl r11), (Fl r39), (Pt b14 2), (Fl r5), (Pt b21 1), (Fl r9), (Fl r44), (Fl r49), (Pt b14 2), (Fl r5), (Pt b21 0), (Fl r7), (Fl r54), (Pt b14 0), (Fl r1), (Pt b21 2), (Fl r11), (Fl r59), (Fl r64), (Pt b14 0), Ud, Ud, Ud, Ud, Ud, Ud, Ud, Ud, Ud, Ud, Ud]) rfl rfl (does_fieldAddr (ev rfl) fa26_0) rfl ?_
  refine q_is (l' := [(.agg #[(Fl r1), (Fl r3), (Fl r5)]), (.agg #[(Fl r7), (Fl r9), (Fl r11)]), (Pt b14 0), (Pt b21 0), (Pt b29 0), (Pt b14 1), (Fl r3), (Pt b21 2), (Fl r11), (Fl r39), (Pt b14 2), (Fl r5), (Pt b21 1), (Fl r9), (Fl r44), (Fl r49), (Pt b14 2), (Fl r5), (Pt b21 0), (Fl r7), (Fl r54), (Pt b14 0), (Fl r1), (Pt b21 2), (Fl r11), (Fl r59), (Fl r64), (Pt b14 0), (Fl r1), Ud, Ud, Ud, Ud, Ud, Ud, Ud, Ud, Ud, Ud]) rfl rfl (does_load (u := (Fl r1)) (ev rfl) Try.isAgg24 (Cells.at (Blk.cells ((((((((hB16.ext E24).ext E32).ext E41).ext E46).ext E51).ext E56).ext E61).ext E66)) 0 rfl)) rfl ?_
  refine q_is (l' := [(.agg #[(Fl r1), (Fl r3), (Fl r5)]), (.agg #[(Fl r7), (Fl r9), (Fl r11)]), (Pt b14 0), (Pt b21 0), (Pt b29 0), (Pt b14 1), (Fl r3), (Pt b21 2), (Fl r11), (Fl r39), (Pt b14 2), (Fl r5), (Pt b21 1), (Fl r9), (Fl r44), (Fl r49), (Pt b14 2), (Fl r5), (Pt b21 0), (Fl r7), (Fl r54), (Pt b14 0), (Fl r1), (Pt b21 2), (Fl r11), (Fl r59), (Fl r64), (Pt b14 0), (Fl r1), (Pt b21 1), Ud, Ud, Ud, Ud, Ud, Ud, Ud, Ud, Ud]) rfl rfl (does_fieldAddr (ev rfl) fa26_1) rfl ?_
  refine q_is (l' := [(.agg #[(Fl r1), (Fl r3), (Fl r5)]), (.agg #[(Fl r7), (Fl r9), (Fl r11)]), (Pt b14 0), (Pt b21 0), (Pt b29 0), (Pt b14 1), (Fl r3), (Pt b21 2), (Fl r11), (Fl r39), (Pt b14 2), (Fl r5), (Pt b21 1), (Fl r9), (Fl r44), (Fl r49), (Pt b14 2), (Fl r5), (Pt b21 0), (Fl r7), (Fl r54), (Pt b14 0), (Fl r1), (Pt b21 2), (Fl r11), (Fl r59), (Fl r64), (Pt b14 0), (Fl r1), (Pt b21 1), (Fl r9), Ud, Ud, Ud, Ud, Ud, Ud, Ud, Ud]) rfl rfl (does_load (u := (Fl r9)) (ev rfl) Try.isAgg24 (Cells.at (Blk.cells (((((((hB23.ext E32).ext E41).ext E46).ext E51).ext E56).ext E61).ext E66)) 1 rfl)) rfl ?_
  refine seqd rfl rfl (does_float (.inr (.inr (.inl rfl))) (ev rfl) (ev rfl)) ?_; rintro _ w72 ⟨r69, rfl, h70, E71⟩
  have X73 := Ext.gr X68 E71
  show wpList _ _ _ _ (fr [(.agg #[(Fl r1), (Fl r3), (Fl r5)]), (.agg #[(Fl r7), (Fl r9), (Fl r11)]), (Pt b14 0), (Pt b21 0), (Pt b29 0), (Pt b14 1), (Fl r3), (Pt b21 2), (Fl r11), (Fl r39), (Pt b14 2), (Fl r5), (Pt b21 1), (Fl r9), (Fl r44), (Fl r49), (Pt b14 2), (Fl r5), (Pt b21 0), (Fl r7), (Fl r54), (Pt b14 0), (Fl r1), (Pt b21 2), (Fl r11), (Fl r59), (Fl r64), (Pt b14 0), (Fl r1), (Pt b21 1), (Fl r9), (Fl r69), Ud, Ud, Ud, Ud, Ud, Ud, Ud]) _
  refine q_is (l' := [(.agg #[(Fl r1), (Fl r3), (Fl r5)]), (.agg #[(Fl r7), (Fl r9), (Fl r11)]), (Pt b14 0), (Pt b21 0), (Pt b29 0), (Pt b14 1), (Fl r3), (Pt b21 2), (Fl r11), (Fl r39), (Pt b14 2), (Fl r5), (Pt b21 1), (Fl r9), (Fl r44), (Fl r49), (Pt b14 2), (Fl r5), (Pt b21 0), (Fl r7), (Fl r54), (Pt b14 0), (Fl r1), (Pt b21 2), (Fl r11), (Fl r59), (Fl r64), (Pt b14 0), (Fl r1), (Pt b21 1), (Fl r9), (Fl r69), (Pt b14 1), Ud, Ud, Ud, Ud, Ud, Ud]) rfl rfl (does_fieldAddr (ev rfl) fa26_1) rfl ?_
  refine q_is (l' := [(.agg #[(Fl r1), (Fl r3), (Fl r5)]), (.agg #[(Fl r7), (Fl r9), (Fl r11)]), (Pt b14 0), (Pt b21 0), (Pt b29 0), (Pt b14 1), (Fl r3), (Pt b21 2), (Fl r11), (Fl r39), (Pt b14 2), (Fl r5), (Pt b21 1), (Fl r9), (Fl r44), (Fl r49), (Pt b14 2), (Fl r5), (Pt b21 0), (Fl r7), (Fl r54), (Pt b14 0), (Fl r1), (Pt b21 2), (Fl r11), (Fl r59), (Fl r64), (Pt b14 0), (Fl r1), (Pt b21 1), (Fl r9), (Fl r69), (Pt b14 1), (Fl r3), Ud, Ud, Ud, Ud, Ud]) rfl rfl (does_load (u := (Fl r3)) (ev rfl) Try.isAgg24 (Cells.at (Blk.cells (((((((((hB16.ext E24).ext E32).ext E41).ext E46).ext E51).ext E56).ext E61).ext E66).ext E71)) 1 rfl)) rfl ?_
  refine q_is (l' := [(.agg #[(Fl r1), (Fl r3), (Fl r5)]), (.agg #[(Fl r7), (Fl r9), (Fl r11)]), (Pt b14 0), (Pt b21 0), (Pt b29 0), (Pt b14 1), (Fl r3), (Pt b21 2), (Fl r11), (Fl r39), (Pt b14 2), (Fl r5), (Pt b21 1), (Fl r9), (Fl r44), (Fl r49), (Pt b14 2), (Fl r5), (Pt b21 0), (Fl r7), (Fl r54), (Pt b14 0), (Fl r1), (Pt b21 2), (Fl r11), (Fl r59), (Fl r64), (Pt b14 0), (Fl r1), (Pt b21 1), (Fl r9), (Fl r69), (Pt b14 1), (Fl r3), (Pt b21 0), Ud, Ud, Ud, Ud]) rfl rfl (does_fieldAddr (ev rfl) fa26_0) rfl ?_
  refine q_is (l' := [(.agg #[(Fl r1), (Fl r3), (Fl r5)]), (.agg #[(Fl r7), (Fl r9), (Fl r11)]), (Pt b14 0), (Pt b21 0), (Pt b29 0), (Pt b14 1), (Fl r3), (Pt b21 2), (Fl r11), (Fl r39), (Pt b14 2), (Fl r5), (Pt b21 1), (Fl r9), (Fl r44), (Fl r49), (Pt b14 2), (Fl r5), (Pt b21 0), (Fl r7), (Fl r54), (Pt b14 0), (Fl r1), (Pt b21 2), (Fl r11), (Fl r59), (Fl r64), (Pt b14 0), (Fl r1), (Pt b21 1), (Fl r9), (Fl r69), (Pt b14 1), (Fl r3), (Pt b21 0), (Fl r7), Ud, Ud, Ud]) rfl rfl (does_load (u := (Fl r7)) (ev rfl) Try.isAgg24 (Cells.at (Blk.cells ((((((((hB23.ext E32).ext E41).ext E46).ext E51).ext E56).ext E61).ext E66).ext E71)) 0 rfl)) rfl ?_
  refine seqd rfl rfl (does_float (.inr (.inr (.inl rfl))) (ev rfl) (ev rfl)) ?_; rintro _ w77 ⟨r74, rfl, h75, E76⟩
  have X78 := Ext.gr X73 E76
  show wpList _ _ _ _ (fr [(.agg #[(Fl r1), (Fl r3), (Fl r5)]), (.agg #[(Fl r7), (Fl r9), (Fl r11)]), (Pt b14 0), (Pt b21 0), (Pt b29 0), (Pt b14 1), (Fl r3), (Pt b21 2), (Fl r11), (Fl r39), (Pt b14 2), (Fl r5), (Pt b21 1), (Fl r9), (Fl r44), (Fl r49), (Pt b14 2), (Fl r5), (Pt b21 0), (Fl r7), (Fl r54), (Pt b14 0), (Fl r1), (Pt b21 2), (Fl r11), (Fl r59), (Fl r64), (Pt b14 0), (Fl r1), (Pt b21 1), (Fl r9), (Fl r69), (Pt b14 1), (Fl r3), (Pt b21 0), (Fl r7), (Fl r74), Ud, Ud]) _
  refine seqd rfl rfl (does_float (.inr (.inl rfl)) (ev rfl) (ev rfl)) ?_; rintro _ w82 ⟨r79, rfl, h80, E81⟩
  have X83 := Ext.gr X78 E81
  show wpList _ _ _ _ (fr [(.agg #[(Fl r1), (Fl r3), (Fl r5)]), (.agg #[(Fl r7), (Fl r9), (Fl r11)]), (Pt b14 0), (Pt b21 0), (Pt b29 0), (Pt b14 1), (Fl r3), (Pt b21 2), (Fl r11), (Fl r39), (Pt b14 2), (Fl r5), (Pt b21 1), (Fl r9), (Fl r44), (Fl r49), (Pt b14 2), (Fl r5), (Pt b21 0), (Fl r7), (Fl r54), (Pt b14 0), (Fl r1), (Pt b21 2), (Fl r11), (Fl r59), (Fl r64), (Pt b14 0), (Fl r1), (Pt b21 1), (Fl r9), (Fl r69), (Pt b14 1), (Fl r3), (Pt b21 0), (Fl r7), (Fl r74), (Fl r79), Ud]) _
  refine q_is (l' := [(.agg #[(Fl r1), (Fl r3), (Fl r5)]), (.agg #[(Fl r7), (Fl r9), (Fl r11)]), (Pt b14 0), (Pt b21 0), (Pt b29 0), (Pt b14 1), (Fl r3), (Pt b21 2), (Fl r11), (Fl r39), (Pt b14 2), (Fl r5), (Pt b21 1), (Fl r9), (Fl r44), (Fl r49), (Pt b14 2), (Fl r5), (Pt b21 0), (Fl r7), (Fl r54), (Pt b14 0), (Fl r1), (Pt b21 2), (Fl r11), (Fl r59), (Fl r64), (Pt b14 0), (Fl r1), (Pt b21 1), (Fl r9), (Fl r69), (Pt b14 1), (Fl r3), (Pt b21 0), (Fl r7), (Fl r74), (Fl r79), (.agg #[(Fl r49), (Fl r64), (Fl r79)])]) rfl rfl (does_build (parts' := [(0, (Fl r49)), (1, (Fl r64)), (2, (Fl r79))]) (cells := #[(Fl r49), (Fl r64), (Fl r79)]) (evp rfl) (by kernel_rfl)) rfl ?_
  refine seqn rfl rfl (does_store (n := 3) (cs := [(Fl 0), (Fl 0), (Fl 0)]) (u := (.agg #[(Fl r49), (Fl r64), (Fl r79)])) (ev rfl) (ev rfl) Try.sizeOf26 rfl (((((((((hB31.ext E41).ext E46).ext E51).ext E56).ext E61).ext E66).ext E71).ext E76).ext E81) (Nat.le_of_ble_eq_true rfl) rfl) ?_; rintro _ w86 ⟨rfl, W84, hB85⟩
  change Blk _ _ [(Fl r49), (Fl r64), (Fl r79)] at hB85
  have X87 := Below.wr X83 W84 g36
  refine wpList_nil (hK38 _ _ ?_)
  refine wp_ret ?_
  refine ret_val (v := (.agg #[(Fl r49), (Fl r64), (Fl r79)])) (res_C rfl (slot rfl) (run_loadAgg (cs := [(Fl r49), (Fl r64), (Fl r79)]) Try.isAgg26 Try.sizeOf26 (Blk.cells hB85) rfl)) X87 ?_
  have x88 : cf .f32 r49 = (crossF A_a A_b).x := by first | with_reducible rfl | (simp only [crossF, h2, h4, h6, h8, h10, h12, h40, h45, h50, h55, h60, h65, h70, h75, h80]; done) | (simp [crossF, h2, h4, h6, h8, h10, h12, h40, h45, h50, h55, h60, h65, h70, h75, h80]; done) | rfl
  have x89 : cf .f32 r64 = (crossF A_a A_b).y := by first | with_reducible rfl | (simp only [crossF, h2, h4, h6, h8, h10, h12, h40, h45, h50, h55, h60, h65, h70, h75, h80]; done) | (simp [crossF, h2, h4, h6, h8, h10, h12, h40, h45, h50, h55, h60, h65, h70, h75, h80]; done) | rfl
  have x90 : cf .f32 r79 = (crossF A_a A_b).z := by first | with_reducible rfl | (simp only [crossF, h2, h4, h6, h8, h10, h12, h40, h45, h50, h55, h60, h65, h70, h75, h80]; done) | (simp [crossF, h2, h4, h6, h8, h10, h12, h40, h45, h50, h55, h60, h65, h70, h75, h80]; done) | rfl
  exact ⟨[(Fl r49), (Fl r64), (Fl r79)], rfl, ⟨r49, r64, r79, rfl, x88, x89, x90⟩⟩

end Go.Proofs.Ytbbidfadenmmjaa
