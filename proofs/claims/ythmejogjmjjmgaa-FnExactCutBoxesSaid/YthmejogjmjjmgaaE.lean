/- contracts of functions, each walked once -/
import Derived.Test.YthmejogjmjjmgaaD
namespace Go.Proofs.Ythmejogjmjjmgaa
open Go Go.RowKit
set_option maxRecDepth 100000
set_option linter.unusedVariables false
set_option linter.unusedSimpArgs false

/- spec.l04Give -/
theorem c_spec_l04Give (b : List Value) (A_b : Bx) (w : World) (hv_b : RBx w A_b b) : Gives Try.prog 77 #[(.agg b.toArray)] w (fun v w' => ∃ cs_1 : List Value, v = (.tuple #[(.agg cs_1.toArray), (Bo (isBox A_b))]) ∧ RBx w (gvB (isBox A_b) A_b) cs_1) := by
  obtain ⟨r1, r3, r5, r7, r9, r11, rfl, h2, h4, h6, h8, h10, h12⟩ := hv_b
  refine enter [(.agg #[(Fl r1), (Fl r3), (Fl r5), (Fl r7), (Fl r9), (Fl r11)]), Ud, Ud, Ud, Ud, Ud, Ud, Ud] Try.func77 rfl Try.ntmps77 rfl ?_
  refine wp_seq_k fun K13 hK13 => ?_
  refine wp_region_lit ?_
  refine seqd rfl rfl (does_box (u := (.agg #[(Fl r1), (Fl r3), (Fl r5), (Fl r7), (Fl r9), (Fl r11)])) (ev rfl)) ?_; rintro _ w18 ⟨b14, rfl, hb15, hB16, E17⟩
  have g19 : w.heap.size ≤ b14 := Nat.le_trans (Below.size (Ext.refl w)) hb15
  change Blk _ _ [(Fl r1), (Fl r3), (Fl r5), (Fl r7), (Fl r9), (Fl r11)] at hB16
  have X20 := Ext.gr (Ext.refl w) E17
  show wpList _ _ _ _ (fr [(.agg #[(Fl r1), (Fl r3), (Fl r5), (Fl r7), (Fl r9), (Fl r11)]), (Pt b14 0), Ud, Ud, Ud, Ud, Ud, Ud]) _
  refine seqd rfl rfl (does_alloc z33) ?_; rintro _ w25 ⟨b21, rfl, hb22, hB23, E24⟩
  have n26 : b14 < b21 := Nat.lt_of_lt_of_le (Blk.lt hB16) hb22
  have g27 : w.heap.size ≤ b21 := Nat.le_trans (Below.size X20) hb22
  change Blk _ _ [(Fl 0), (Fl 0), (Fl 0), (Fl 0), (Fl 0), (Fl 0)] at hB23
  have X28 := Ext.gr X20 E24
  show wpList _ _ _ _ (fr [(.agg #[(Fl r1), (Fl r3), (Fl r5), (Fl r7), (Fl r9), (Fl r11)]), (Pt b14 0), (Pt b21 0), Ud, Ud, Ud, Ud, Ud]) _
  refine q_is (l' := [(.agg #[(Fl r1), (Fl r3), (Fl r5), (Fl r7), (Fl r9), (Fl r11)]), (Pt b14 0), (Pt b21 0), (Bo false), Ud, Ud, Ud, Ud]) rfl rfl (does_assign (u := (Bo false)) (ev rfl)) rfl ?_
  refine wpList_nil (hK13 _ _ ?_)
  refine wp_seq_k fun K29 hK29 => ?_
  refine wp_seq_k fun K30 hK30 => ?_
  refine wp_region_lit ?_
  refine seqd rfl rfl (does_call (args := #[(Pt b14 0)]) cal51 (evs rfl) (c_spec_l04Is b14 0 [(Fl r1), (Fl r3), (Fl r5), (Fl r7), (Fl r9), (Fl r11)] A_b _ (Blk.cells (hB16.ext E24)) ⟨r1, r3, r5, r7, r9, r11, rfl, h2, h4, h6, h8, h10, h12⟩)) ?_; rintro _ w32 ⟨E31, rfl⟩
  have X33 := Ext.gr X28 E31
  show wpList _ _ _ _ (fr [(.agg #[(Fl r1), (Fl r3), (Fl r5), (Fl r7), (Fl r9), (Fl r11)]), (Pt b14 0), (Pt b21 0), (Bo false), (Bo (isBox A_b)), Ud, Ud, Ud]) _
  refine q_is (l' := [(.agg #[(Fl r1), (Fl r3), (Fl r5), (Fl r7), (Fl r9), (Fl r11)]), (Pt b14 0), (Pt b21 0), (Bo false), (Bo (isBox A_b)), (Bo (!(isBox A_b))), Ud, Ud]) rfl rfl (does_not (ev rfl)) rfl ?_
  refine wpList_nil (hK30 _ _ ?_)
  refine wp_cond_split (t := !(isBox A_b)) (ev rfl) (fun c34 => ?_) (fun c34 => ?_)
  · rw [Bool.not_eq_true'] at c34
    have c34' := c34
    refine wp_seq_k fun K35 hK35 => ?_
    refine wp_region_lit ?_
    refine q_is (l' := [(.agg #[(Fl r1), (Fl r3), (Fl r5), (Fl r7), (Fl r9), (Fl r11)]), (Pt b14 0), (Pt b21 0), (Bo false), (Bo (isBox A_b)), (Bo (!(isBox A_b))), (.agg #[(Fl 0), (Fl 0), (Fl 0), (Fl 0), (Fl 0), (Fl 0)]), Ud]) rfl rfl (does_build (parts' := []) (cells := #[(Fl 0), (Fl 0), (Fl 0), (Fl 0), (Fl 0), (Fl 0)]) (evp rfl) (by kernel_rfl)) rfl ?_
    refine seqn rfl rfl (does_store (n := 6) (cs := [(Fl 0), (Fl 0), (Fl 0), (Fl 0), (Fl 0), (Fl 0)]) (u := (.agg #[(Fl 0), (Fl 0), (Fl 0), (Fl 0), (Fl 0), (Fl 0)])) (ev rfl) (ev rfl) Try.sizeOf33 rfl (hB23.ext E31) (Nat.le_of_ble_eq_true rfl) rfl) ?_; rintro _ w38 ⟨rfl, W36, hB37⟩
    change Blk _ _ [(Fl 0), (Fl 0), (Fl 0), (Fl 0), (Fl 0), (Fl 0)] at hB37
    have X39 := Below.wr X33 W36 g27
    refine q_is (l' := [(.agg #[(Fl r1), (Fl r3), (Fl r5), (Fl r7), (Fl r9), (Fl r11)]), (Pt b14 0), (Pt b21 0), (Bo false), (Bo (isBox A_b)), (Bo (!(isBox A_b))), (.agg #[(Fl 0), (Fl 0), (Fl 0), (Fl 0), (Fl 0), (Fl 0)]), Ud]) rfl rfl (does_assign (u := (Bo false)) (ev rfl)) rfl ?_
    refine wpList_nil (hK35 _ _ ?_)
    refine wp_ret ?_
    dsimp only [Exit.then, Exit.inBlock]
    refine ret_val (v := (.tuple #[(.agg #[(Fl 0), (Fl 0), (Fl 0), (Fl 0), (Fl 0), (Fl 0)]), (Bo false)])) (res_CT rfl (slot rfl) (run_loadAgg (cs := [(Fl 0), (Fl 0), (Fl 0), (Fl 0), (Fl 0), (Fl 0)]) Try.isAgg33 Try.sizeOf33 (Blk.cells hB37) rfl) (slot rfl)) X39 ?_
    try simp only [h2, h4, h6, h8, h10, h12] at c34
    have x40 : (isBox A_b) = false := by first | rfl | (simp only [gvB_t, gvB_f, zB, zV, Bool.true_and, Bool.false_and, Bool.and_true, Bool.and_false, Bool.not_eq_true', Bool.not_eq_false', h2, h4, h6, h8, h10, h12, c34]; done) | (simp [gvB_t, gvB_f, zB, zV, Bool.true_and, Bool.false_and, Bool.and_true, Bool.and_false, Bool.not_eq_true', Bool.not_eq_false', h2, h4, h6, h8, h10, h12, c34]; done) | (revert c34; simp +contextual [gvB_t, gvB_f, zB, zV, Bool.true_and, Bool.false_and, Bool.and_true, Bool.and_false, Bool.not_eq_true', Bool.not_eq_false', h2, h4, h6, h8, h10, h12]; done) | (rcases c34' with hh | hh <;> simp only [hh, gvB_t, gvB_f, zB, zV, Bool.true_and, Bool.false_and, Bool.and_true, Bool.and_false, Bool.not_eq_true', Bool.not_eq_false', h2, h4, h6, h8, h10, h12, c34]; done)
    have x41 : cf .f32 0 = (gvB (isBox A_b) A_b).lo.x := by first | rfl | (simp only [gvB_t, gvB_f, zB, zV, Bool.true_and, Bool.false_and, Bool.and_true, Bool.and_false, Bool.not_eq_true', Bool.not_eq_false', h2, h4, h6, h8, h10, h12, c34]; done) | (simp [gvB_t, gvB_f, zB, zV, Bool.true_and, Bool.false_and, Bool.and_true, Bool.and_false, Bool.not_eq_true', Bool.not_eq_false', h2, h4, h6, h8, h10, h12, c34]; done) | (revert c34; simp +contextual [gvB_t, gvB_f, zB, zV, Bool.true_and, Bool.false_and, Bool.and_true, Bool.and_false, Bool.not_eq_true', Bool.not_eq_false', h2, h4, h6, h8, h10, h12]; done) | (rcases c34' with hh | hh <;> simp only [hh, gvB_t, gvB_f, zB, zV, Bool.true_and, Bool.false_and, Bool.and_true, Bool.and_false, Bool.not_eq_true', Bool.not_eq_false', h2, h4, h6, h8, h10, h12, c34]; done)
    have x42 : cf .f32 0 = (gvB (isBox A_b) A_b).lo.y := by first | rfl | (simp only [gvB_t, gvB_f, zB, zV, Bool.true_and, Bool.false_and, Bool.and_true, Bool.and_false, Bool.not_eq_true', Bool.not_eq_false', h2, h4, h6, h8, h10, h12, c34]; done) | (simp [gvB_t, gvB_f, zB, zV, Bool.true_and, Bool.false_and, Bool.and_true, Bool.and_false, Bool.not_eq_true', Bool.not_eq_false', h2, h4, h6, h8, h10, h12, c34]; done) | (revert c34; simp +contextual [gvB_t, gvB_f, zB, zV, Bool.true_and, Bool.false_and, Bool.and_true, Bool.and_false, Bool.not_eq_true', Bool.not_eq_false', h2, h4, h6, h8, h10, h12]; done) | (rcases c34' with hh | hh <;> simp only [hh, gvB_t, gvB_f, zB, zV, Bool.true_and, Bool.false_and, Bool.and_true, Bool.and_false, Bool.not_eq_true', Bool.not_eq_false', h2, h4, h6, h8, h10, h12, c34]; done)
    have x43 : cf .f32 0 = (gvB (isBox A_b) A_b).lo.z := by first | rfl | (simp only [gvB_t, gvB_f, zB, zV, Bool.true_and, Bool.false_and, Bool.and_true, Bool.and_false, Bool.not_eq_true', Bool.not_eq_false', h2, h4, h6, h8, h10, h12, c34]; done) | (simp [gvB_t, gvB_f, zB, zV, Bool.true_and, Bool.false_and, Bool.and_true, Bool.and_false, Bool.not_eq_true', Bool.not_eq_false', h2, h4, h6, h8, h10, h12, c34]; done) | (revert c34; simp +contextual [gvB_t, gvB_f, zB, zV, Bool.true_and, Bool.false_and, Bool.and_true, Bool.and_false, Bool.not_eq_true', Bool.not_eq_false', h2, h4, h6, h8, h10, h12]; done) | (rcases c34' with hh | hh <;> simp only [hh, gvB_t, gvB_f, zB, zV, Bool.true_and, Bool.false_and, Bool.and_true, Bool.and_false, Bool.not_eq_true', Bool.not_eq_false', h2, h4, h6, h8, h10, h12, c34]; done)
    have x44 : cf .f32 0 = (gvB (isBox A_b) A_b).hi.x := by first | rfl | (simp only [gvB_t, gvB_f, zB, zV, Bool.true_and, Bool.false_and, Bool.and_true, Bool.and_false, Bool.not_eq_true', Bool.not_eq_false', h2, h4, h6, h8, h10, h12, c34]; done) | (simp [gvB_t, gvB_f, zB, zV, Bool.true_and, Bool.false_and, Bool.and_true, Bool.and_false, Bool.not_eq_true', Bool.not_eq_false', h2, h4, h6, h8, h10, h12, c34]; done) | (revert c34; simp +contextual [gvB_t, gvB_f, zB, zV, Bool.true_and, Bool.false_and, Bool.and_true, Bool.and_false, Bool.not_eq_true', Bool.not_eq_false', h2, h4, h6, h8, h10, h12]; done) | (rcases c34' with hh | hh <;> simp only [hh, gvB_t, gvB_f, zB, zV, Bool.true_and, Bool.false_and, Bool.and_true, Bool.and_false, Bool.not_eq_true', Bool.not_eq_false', h2, h4, h6, h8, h10, h12, c34]; done)
    have x45 : cf .f32 0 = (gvB (isBox A_b) A_b).hi.y := by first | rfl | (simp only [gvB_t, gvB_f, zB, zV, Bool.true_and, Bool.false_and, Bool.and_true, Bool.and_false, Bool.not_eq_true', Bool.not_eq_false', h2, h4, h6, h8, h10, h12, c34]; done) | (simp [gvB_t, gvB_f, zB, zV, Bool.true_and, Bool.false_and, Bool.and_true, Bool.and_false, Bool.not_eq_true', Bool.not_eq_false', h2, h4, h6, h8, h10, h12, c34]; done) | (revert c34; simp +contextual [gvB_t, gvB_f, zB, zV, Bool.true_and, Bool.false_and, Bool.and_true, Bool.and_false, Bool.not_eq_true', Bool.not_eq_false', h2, h4, h6, h8, h10, h12]; done) | (rcases c34' with hh | hh <;> simp only [hh, gvB_t, gvB_f, zB, zV, Bool.true_and, Bool.false_and, Bool.and_true, Bool.and_false, Bool.not_eq_true', Bool.not_eq_false', h2, h4, h6, h8, h10, h12, c34]; done)
    have x46 : cf .f32 0 = (gvB (isBox A_b) A_b).hi.z := by first | rfl | (simp only [gvB_t, gvB_f, zB, zV, Bool.true_and, Bool.false_and, Bool.and_true, Bool.and_false, Bool.not_eq_true', Bool.not_eq_false', h2, h4, h6, h8, h10, h12, c34]; done) | (simp [gvB_t, gvB_f, zB, zV, Bool.true_and, Bool.false_and, Bool.and_true, Bool.and_false, Bool.not_eq_true', Bool.not_eq_false', h2, h4, h6, h8, h10, h12, c34]; done) | (revert c34; simp +contextual [gvB_t, gvB_f, zB, zV, Bool.true_and, Bool.false_and, Bool.and_true, Bool.and_false, Bool.not_eq_true', Bool.not_eq_false', h2, h4, h6, h8, h10, h12]; done) | (rcases c34' with hh | hh <;> simp only [hh, gvB_t, gvB_f, zB, zV, Bool.true_and, Bool.false_and, Bool.and_true, Bool.and_false, Bool.not_eq_true', Bool.not_eq_false', h2, h4, h6, h8, h10, h12, c34]; done)
    exact ⟨[(Fl 0), (Fl 0), (Fl 0), (Fl 0), (Fl 0), (Fl 0)], (by first | rfl | rw [x40]), ⟨0, 0, 0, 0, 0, 0, rfl, x41, x42, x43, x44, x45, x46⟩⟩
  rw [Bool.not_eq_false'] at c34
  have c34' := c34
  refine wp_skip (hK29 _ _ ?_)
  refine wp_seq_k fun K47 hK47 => ?_
  refine wp_region_lit ?_
  refine q_is (l' := [(.agg #[(Fl r1), (Fl r3), (Fl r5), (Fl r7), (Fl r9), (Fl r11)]), (Pt b14 0), (Pt b21 0), (Bo false), (Bo (isBox A_b)), (Bo (!(isBox A_b))), Ud, (.agg #[(Fl r1), (Fl r3), (Fl r5), (Fl r7), (Fl r9), (Fl r11)])]) rfl rfl (does_loadAgg (cs := [(Fl r1), (Fl r3), (Fl r5), (Fl r7), (Fl r9), (Fl r11)]) (ev rfl) Try.isAgg33 Try.sizeOf33 (Blk.cells ((hB16.ext E24).ext E31)) rfl) rfl ?_
  refine seqn rfl rfl (does_store (n := 6) (cs := [(Fl 0), (Fl 0), (Fl 0), (Fl 0), (Fl 0), (Fl 0)]) (u := (.agg #[(Fl r1), (Fl r3), (Fl r5), (Fl r7), (Fl r9), (Fl r11)])) (ev rfl) (ev rfl) Try.sizeOf33 rfl (hB23.ext E31) (Nat.le_of_ble_eq_true rfl) rfl) ?_; rintro _ w50 ⟨rfl, W48, hB49⟩
  change Blk _ _ [(Fl r1), (Fl r3), (Fl r5), (Fl r7), (Fl r9), (Fl r11)] at hB49
  have X51 := Below.wr X33 W48 g27
  refine q_is (l' := [(.agg #[(Fl r1), (Fl r3), (Fl r5), (Fl r7), (Fl r9), (Fl r11)]), (Pt b14 0), (Pt b21 0), (Bo true), (Bo (isBox A_b)), (Bo (!(isBox A_b))), Ud, (.agg #[(Fl r1), (Fl r3), (Fl r5), (Fl r7), (Fl r9), (Fl r11)])]) rfl rfl (does_assign (u := (Bo true)) (ev rfl)) rfl ?_
  refine wpList_nil (hK47 _ _ ?_)
  refine wp_ret ?_
  refine ret_val (v := (.tuple #[(.agg #[(Fl r1), (Fl r3), (Fl r5), (Fl r7), (Fl r9), (Fl r11)]), (Bo true)])) (res_CT rfl (slot rfl) (run_loadAgg (cs := [(Fl r1), (Fl r3), (Fl r5), (Fl r7), (Fl r9), (Fl r11)]) Try.isAgg33 Try.sizeOf33 (Blk.cells hB49) rfl) (slot rfl)) X51 ?_
  try simp only [h2, h4, h6, h8, h10, h12] at c34
  have x52 : (isBox A_b) = true := by first | rfl | (simp only [gvB_t, gvB_f, zB, zV, Bool.true_and, Bool.false_and, Bool.and_true, Bool.and_false, Bool.not_eq_true', Bool.not_eq_false', h2, h4, h6, h8, h10, h12, c34]; done) | (simp [gvB_t, gvB_f, zB, zV, Bool.true_and, Bool.false_and, Bool.and_true, Bool.and_false, Bool.not_eq_true', Bool.not_eq_false', h2, h4, h6, h8, h10, h12, c34]; done) | (revert c34; simp +contextual [gvB_t, gvB_f, zB, zV, Bool.true_and, Bool.false_and, Bool.and_true, Bool.and_false, Bool.not_eq_true', Bool.not_eq_false', h2, h4, h6, h8, h10, h12]; done) | (rcases c34' with hh | hh <;> simp only [hh, gvB_t, gvB_f, zB, zV, Bool.true_and, Bool.false_and, Bool.and_true, Bool.and_false, Bool.not_eq_true', Bool.not_eq_false', h2, h4, h6, h8, h10, h12, c34]; done)
  have x53 : cf .f32 r1 = (gvB (isBox A_b) A_b).lo.x := by first | rfl | (simp only [gvB_t, gvB_f, zB, zV, Bool.true_and, Bool.false_and, Bool.and_true, Bool.and_false, Bool.not_eq_true', Bool.not_eq_false', h2, h4, h6, h8, h10, h12, c34]; done) | (simp [gvB_t, gvB_f, zB, zV, Bool.true_and, Bool.false_and, Bool.and_true, Bool.and_false, Bool.not_eq_true', Bool.not_eq_false', h2, h4, h6, h8, h10, h12, c34]; done) | (revert c34; simp +contextual [gvB_t, gvB_f, zB, zV, Bool.true_and, Bool.false_and, Bool.and_true, Bool.and_false, Bool.not_eq_true', Bool.not_eq_false', h2, h4, h6, h8, h10, h12]; done) | (rcases c34' with hh | hh <;> simp only [hh, gvB_t, gvB_f, zB, zV, Bool.true_and, Bool.false_and, Bool.and_true, Bool.and_false, Bool.not_eq_true', Bool.not_eq_false', h2, h4, h6, h8, h10, h12, c34]; done)
  have x54 : cf .f32 r3 = (gvB (isBox A_b) A_b).lo.y := by first | rfl | (simp only [gvB_t, gvB_f, zB, zV, Bool.true_and, Bool.false_and, Bool.and_true, Bool.and_false, Bool.not_eq_true', Bool.not_eq_false', h2, h4, h6, h8, h10, h12, c34]; done) | (simp [gvB_t, gvB_f, zB, zV, Bool.true_and, Bool.false_and, Bool.and_true, Bool.and_false, Bool.not_eq_true', Bool.not_eq_false', h2, h4, h6, h8, h10, h12, c34]; done) | (revert c34; simp +contextual [gvB_t, gvB_f, zB, zV, Bool.true_and, Bool.false_and, Bool.and_true, Bool.and_false, Bool.not_eq_true', Bool.not_eq_false', h2, h4, h6, h8, h10, h12]; done) | (rcases c34' with hh | hh <;> simp only [hh, gvB_t, gvB_f, zB, zV, Bool.true_and, Bool.false_and, Bool.and_true, Bool.and_false, Bool.not_eq_true', Bool.not_eq_false', h2, h4, h6, h8, h10, h12, c34]; done)
  have x55 : cf .f32 r5 = (gvB (isBox A_b) A_b).lo.z := by first | rfl | (simp only [gvB_t, gvB_f, zB, zV, Bool.true_and, Bool.false_and, Bool.and_true, Bool.and_false, Bool.not_eq_true', Bool.not_eq_false', h2, h4, h6, h8, h10, h12, c34]; done) | (simp [gvB_t, gvB_f, zB, zV, Bool.true_and, Bool.false_and, Bool.and_true, Bool.and_false, Bool.not_eq_true', Bool.not_eq_false', h2, h4, h6, h8, h10, h12, c34]; done) | (revert c34; simp +contextual [gvB_t, gvB_f, zB, zV, Bool.true_and, Bool.false_and, Bool.and_true, Bool.and_false, Bool.not_eq_true', Bool.not_eq_false', h2, h4, h6, h8, h10, h12]; done) | (rcases c34' with hh | hh <;> simp only [hh, gvB_t, gvB_f, zB, zV, Bool.true_and, Bool.false_and, Bool.and_true, Bool.and_false, Bool.not_eq_true', Bool.not_eq_false', h2, h4, h6, h8, h10, h12, c34]; done)
  have x56 : cf .f32 r7 = (gvB (isBox A_b) A_b).hi.x := by first | rfl | (simp only [gvB_t, gvB_f, zB, zV, Bool.true_and, Bool.false_and, Bool.and_true, Bool.and_false, Bool.not_eq_true', Bool.not_eq_false', h2, h4, h6, h8, h10, h12, c34]; done) | (simp [gvB_t, gvB_f, zB, zV, Bool.true_and, Bool.false_and, Bool.and_true, Bool.and_false, Bool.not_eq_true', Bool.not_eq_false', h2, h4, h6, h8, h10, h12, c34]; done) | (revert c34; simp +contextual [gvB_t, gvB_f, zB, zV, Bool.true_and, Bool.false_and, Bool.and_true, Bool.and_false, Bool.not_eq_true', Bool.not_eq_false', h2, h4, h6, h8, h10, h12]; done) | (rcases c34' with hh | hh <;> simp only [hh, gvB_t, gvB_f, zB, zV, Bool.true_and, Bool.false_and, Bool.and_true, Bool.and_false, Bool.not_eq_true', Bool.not_eq_false', h2, h4, h6, h8, h10, h12, c34]; done)
  have x57 : cf .f32 r9 = (gvB (isBox A_b) A_b).hi.y := by first | rfl | (simp only [gvB_t, gvB_f, zB, zV, Bool.true_and, Bool.false_and, Bool.and_true, Bool.and_false, Bool.not_eq_true', Bool.not_eq_false', h2, h4, h6, h8, h10, h12, c34]; done) | (simp [gvB_t, gvB_f, zB, zV, Bool.true_and, Bool.false_and, Bool.and_true, Bool.and_false, Bool.not_eq_true', Bool.not_eq_false', h2, h4, h6, h8, h10, h12, c34]; done) | (revert c34; simp +contextual [gvB_t, gvB_f, zB, zV, Bool.true_and, Bool.false_and, Bool.and_true, Bool.and_false, Bool.not_eq_true', Bool.not_eq_false', h2, h4, h6, h8, h10, h12]; done) | (rcases c34' with hh | hh <;> simp only [hh, gvB_t, gvB_f, zB, zV, Bool.true_and, Bool.false_and, Bool.and_true, Bool.and_false, Bool.not_eq_true', Bool.not_eq_false', h2, h4, h6, h8, h10, h12, c34]; done)
  have x58 : cf .f32 r11 = (gvB (isBox A_b) A_b).hi.z := by first | rfl | (simp only [gvB_t, gvB_f, zB, zV, Bool.true_and, Bool.false_and, Bool.and_true, Bool.and_false, Bool.not_eq_true', Bool.not_eq_false', h2, h4, h6, h8, h10, h12, c34]; done) | (simp [gvB_t, gvB_f, zB, zV, Bool.true_and, Bool.false_and, Bool.and_true, Bool.and_false, Bool.not_eq_true', Bool.not_eq_false', h2, h4, h6, h8, h10, h12, c34]; done) | (revert c34; simp +contextual [gvB_t, gvB_f, zB, zV, Bool.true_and, Bool.false_and, Bool.and_true, Bool.and_false, Bool.not_eq_true', Bool.not_eq_false', h2, h4, h6, h8, h10, h12]; done) | (rcases c34' with hh | hh <;> simp only [hh, gvB_t, gvB_f, zB, zV, Bool.true_and, Bool.false_and, Bool.and_true, Bool.and_false, Bool.not_eq_true', Bool.not_eq_false', h2, h4, h6, h8, h10, h12, c34]; done)
  exact ⟨[(Fl r1), (Fl r3), (Fl r5), (Fl r7), (Fl r9), (Fl r11)], (by first | rfl | rw [x52]), ⟨r1, r3, r5, r7, r9, r11, rfl, x53, x54, x55, x56, x57, x58⟩⟩

/- spec.l01Less -/
theorem c_spec_l01Less (a : List Value) (A_a : V3) (b : List Value) (A_b : V3) (w : World) (hv_a : RV3 w A_a a) (hv_b : RV3 w A_b b) : Gives Try.prog 78 #[(.agg a.toArray), (.agg b.toArray)] w (fun v w' => ∃ cs_1 : List Value, v = (.agg cs_1.toArray) ∧ RV3 w (vsub A_a A_b) cs_1) := by
  obtain ⟨r1, r3, r5, rfl, h2, h4, h6⟩ := hv_a
  obtain ⟨r7, r9, r11, rfl, h8, h10, h12⟩ := hv_b
  refine enter [(.agg #[(Fl r1), (Fl r3), (Fl r5)]), (.agg #[(Fl r7), (Fl r9), (Fl r11)]), Ud, Ud, Ud, Ud, Ud, Ud, Ud, Ud, Ud, Ud, Ud, Ud, Ud, Ud, Ud, Ud, Ud, Ud, Ud] Try.func78 rfl Try.ntmps78 rfl ?_
  refine wp_seq_k fun K13 hK13 => ?_
  refine wp_region_lit ?_
  refine seqd rfl rfl (does_box (u := (.agg #[(Fl r1), (Fl r3), (Fl r5)])) (ev rfl)) ?_; rintro _ w18 ⟨b14, rfl, hb15, hB16, E17⟩
  have g19 : w.heap.size ≤ b14 := Nat.le_trans (Below.size (Ext.refl w)) hb15
  change Blk _ _ [(Fl r1), (Fl r3), (Fl r5)] at hB16
  have X20 := Ext.gr (Ext.refl w) E17
  show wpList _ _ _ _ (fr [(.agg #[(Fl r1), (Fl r3), (Fl r5)]), (.agg #[(Fl r7), (Fl r9), (Fl r11)]), (Pt b14 0), Ud, Ud, Ud, Ud, Ud, Ud, Ud, Ud, Ud, Ud, Ud, Ud, Ud, Ud, Ud, Ud, Ud, Ud]) _
  refine seqd rfl rfl (does_box (u := (.agg #[(Fl r7), (Fl r9), (Fl r11)])) (ev rfl)) ?_; rintro _ w25 ⟨b21, rfl, hb22, hB23, E24⟩
  have n26 : b14 < b21 := Nat.lt_of_lt_of_le (Blk.lt hB16) hb22
  have g27 : w.heap.size ≤ b21 := Nat.le_trans (Below.size X20) hb22
  change Blk _ _ [(Fl r7), (Fl r9), (Fl r11)] at hB23
  have X28 := Ext.gr X20 E24
  show wpList _ _ _ _ (fr [(.agg #[(Fl r1), (Fl r3), (Fl r5)]), (.agg #[(Fl r7), (Fl r9), (Fl r11)]), (Pt b14 0), (Pt b21 0), Ud, Ud, Ud, Ud, Ud, Ud, Ud, Ud, Ud, Ud, Ud, Ud, Ud, Ud, Ud, Ud, Ud]) _
  refine seqd rfl rfl (does_alloc z31) ?_; rintro _ w33 ⟨b29, rfl, hb30, hB31, E32⟩
  have n34 : b14 < b29 := Nat.lt_of_lt_of_le (Blk.lt (hB16.ext E24)) hb30
  have n35 : b21 < b29 := Nat.lt_of_lt_of_le (Blk.lt hB23) hb30
  have g36 : w.heap.size ≤ b29 := Nat.le_trans (Below.size X28) hb30
  change Blk _ _ [(Fl 0), (Fl 0), (Fl 0)] at hB31
  have X37 := Ext.gr X28 E32
  show wpList _ _ _ _ (fr [(.agg #[(Fl r1), (Fl r3), (Fl r5)]), (.agg #[(Fl r7), (Fl r9), (Fl r11)]), (Pt b14 0), (Pt b21 0), (Pt b29 0), Ud, Ud, Ud, Ud, Ud, Ud, Ud, Ud, Ud, Ud, Ud, Ud, Ud, Ud, Ud, Ud]) _
  refine wpList_nil (hK13 _ _ ?_)
  refine wp_seq_k fun K38 hK38 => ?_
  refine wp_region_lit ?_
  refine q_is (l' := [(.agg #[(Fl r1), (Fl r3), (Fl r5)]), (.agg #[(Fl r7), (Fl r9), (Fl r11)]), (Pt b14 0), (Pt b21 0), (Pt b29 0), (Pt b14 0), Ud, Ud, Ud, Ud, Ud, Ud, Ud, Ud, Ud, Ud, Ud, Ud, Ud, Ud, Ud]) rfl rfl (does_fieldAddr (ev rfl) fa31_0) rfl ?_
  refine q_is (l' := [(.agg #[(Fl r1), (Fl r3), (Fl r5)]), (.agg #[(Fl r7), (Fl r9), (Fl r11)]), (Pt b14 0), (Pt b21 0), (Pt b29 0), (Pt b14 0), (Fl r1), Ud, Ud, Ud, Ud, Ud, Ud, Ud, Ud, Ud, Ud, Ud, Ud, Ud, Ud]) rfl rfl (does_load (u := (Fl r1)) (ev rfl) Try.isAgg25 (Cells.at (Blk.cells ((hB16.ext E24).ext E32)) 0 rfl)) rfl ?_
  refine q_is (l' := [(.agg #[(Fl r1), (Fl r3), (Fl r5)]), (.agg #[(Fl r7), (Fl r9), (Fl r11)]), (Pt b14 0), (Pt b21 0), (Pt b29 0), (Pt b14 0), (Fl r1), (Pt b21 0), Ud, Ud, Ud, Ud, Ud, Ud, Ud, Ud, Ud, Ud, Ud, Ud, Ud]) rfl rfl (does_fieldAddr (ev rfl) fa31_0) rfl ?_
  refine q_is (l' := [(.agg #[(Fl r1), (Fl r3), (Fl r5)]), (.agg #[(Fl r7), (Fl r9), (Fl r11)]), (Pt b14 0), (Pt b21 0), (Pt b29 0), (Pt b14 0), (Fl r1), (Pt b21 0), (Fl r7), Ud, Ud, Ud, Ud, Ud, Ud, Ud, Ud, Ud, Ud, Ud, Ud]) rfl rfl (does_load (u := (Fl r7)) (ev rfl) Try.isAgg25 (Cells.at (Blk.cells (hB23.ext E32)) 0 rfl)) rfl ?_
  refine seqd rfl rfl (does_float (.inr (.inl rfl)) (ev rfl) (ev rfl)) ?_; rintro _ w42 ⟨r39, rfl, h40, E41⟩
  have X43 := Ext.gr X37 E41
  show wpList _ _ _ _ (fr [(.agg #[(Fl r1), (Fl r3), (Fl r5)]), (.agg #[(Fl r7), (Fl r9), (Fl r11)]), (Pt b14 0), (Pt b21 0), (Pt b29 0), (Pt b14 0), (Fl r1), (Pt b21 0), (Fl r7), (Fl r39), Ud, Ud, Ud, Ud, Ud, Ud, Ud, Ud, Ud, Ud, Ud]) _
  refine q_is (l' := [(.agg #[(Fl r1), (Fl r3), (Fl r5)]), (.agg #[(Fl r7), (Fl r9), (Fl r11)]), (Pt b14 0), (Pt b21 0), (Pt b29 0), (Pt b14 0), (Fl r1), (Pt b21 0), (Fl r7), (Fl r39), (Pt b14 1), Ud, Ud, Ud, Ud, Ud, Ud, Ud, Ud, Ud, Ud]) rfl rfl (does_fieldAddr (ev rfl) fa31_1) rfl ?_
  refine q_is (l' := [(.agg #[(Fl r1), (Fl r3), (Fl r5)]), (.agg #[(Fl r7), (Fl r9), (Fl r11)]), (Pt b14 0), (Pt b21 0), (Pt b29 0), (Pt b14 0), (Fl r1), (Pt b21 0), (Fl r7), (Fl r39), (Pt b14 1), (Fl r3), Ud, Ud, Ud, Ud, Ud, Ud, Ud, Ud, Ud]) rfl rfl (does_load (u := (Fl r3)) (ev rfl) Try.isAgg25 (Cells.at (Blk.cells (((hB16.ext E24).ext E32).ext E41)) 1 rfl)) rfl ?_
  refine q_is (l' := [(.agg #[(Fl r1), (Fl r3), (Fl r5)]), (.agg #[(Fl r7), (Fl r9), (Fl r11)]), (Pt b14 0), (Pt b21 0), (Pt b29 0), (Pt b14 0), (Fl r1), (Pt b21 0), (Fl r7), (Fl r39), (Pt b14 1), (Fl r3), (Pt b21 1), Ud, Ud, Ud, Ud, Ud, Ud, Ud, Ud]) rfl rfl (does_fieldAddr (ev rfl) fa31_1) rfl ?_
  refine q_is (l' := [(.agg #[(Fl r1), (Fl r3), (Fl r5)]), (.agg #[(Fl r7), (Fl r9), (Fl r11)]), (Pt b14 0), (Pt b21 0), (Pt b29 0), (Pt b14 0), (Fl r1), (Pt b21 0), (Fl r7), (Fl r39), (Pt b14 1), (Fl r3), (Pt b21 1), (Fl r9), Ud, Ud, Ud, Ud, Ud, Ud, Ud]) rfl rfl (does_load (u := (Fl r9)) (ev rfl) Try.isAgg25 (Cells.at (Blk.cells ((hB23.ext E32).ext E41)) 1 rfl)) rfl ?_
  refine seqd rfl rfl (does_float (.inr (.inl rfl)) (ev rfl) (ev rfl)) ?_; rintro _ w47 ⟨r44, rfl, h45, E46⟩
  have X48 := Ext.gr X43 E46
  show wpList _ _ _ _ (fr [(.agg #[(Fl r1), (Fl r3), (Fl r5)]), (.agg #[(Fl r7), (Fl r9), (Fl r11)]), (Pt b14 0), (Pt b21 0), (Pt b29 0), (Pt b14 0), (Fl r1), (Pt b21 0), (Fl r7), (Fl r39), (Pt b14 1), (Fl r3), (Pt b21 1), (Fl r9), (Fl r44), Ud, Ud, Ud, Ud, Ud, Ud]) _
  refine q_is (l' := [(.agg #[(Fl r1), (Fl r3), (Fl r5)]), (.agg #[(Fl r7), (Fl r9), (Fl r11)]), (Pt b14 0), (Pt b21 0), (Pt b29 0), (Pt b14 0), (Fl r1), (Pt b21 0), (Fl r7), (Fl r39), (Pt b14 1), (Fl r3), (Pt b21 1), (Fl r9), (Fl r44), (Pt b14 2), Ud, Ud, Ud, Ud, Ud]) rfl rfl (does_fieldAddr (ev rfl) fa31_2) rfl ?_
  refine q_is (l' := [(.agg #[(Fl r1), (Fl r3), (Fl r5)]), (.agg #[(Fl r7), (Fl r9), (Fl r11)]), (Pt b14 0), (Pt b21 0), (Pt b29 0), (Pt b14 0), (Fl r1), (Pt b21 0), (Fl r7), (Fl r39), (Pt b14 1), (Fl r3), (Pt b21 1), (Fl r9), (Fl r44), (Pt b14 2), (Fl r5), Ud, Ud, Ud, Ud]) rfl rfl (does_load (u := (Fl r5)) (ev rfl) Try.isAgg25 (Cells.at (Blk.cells ((((hB16.ext E24).ext E32).ext E41).ext E46)) 2 rfl)) rfl ?_
  refine q_is (l' := [(.agg #[(Fl r1), (Fl r3), (Fl r5)]), (.agg #[(Fl r7), (Fl r9), (Fl r11)]), (Pt b14 0), (Pt b21 0), (Pt b29 0), (Pt b14 0), (Fl r1), (Pt b21 0), (Fl r7), (Fl r39), (Pt b14 1), (Fl r3), (Pt b21 1), (Fl r9), (Fl r44), (Pt b14 2), (Fl r5), (Pt b21 2), Ud, Ud, Ud]) rfl rfl (does_fieldAddr (ev rfl) fa31_2) rfl ?_
  refine q_is (l' := [(.agg #[(Fl r1), (Fl r3), (Fl r5)]), (.agg #[(Fl r7), (Fl r9), (Fl r11)]), (Pt b14 0), (Pt b21 0), (Pt b29 0), (Pt b14 0), (Fl r1), (Pt b21 0), (Fl r7), (Fl r39), (Pt b14 1), (Fl r3), (Pt b21 1), (Fl r9), (Fl r44), (Pt b14 2), (Fl r5), (Pt b21 2), (Fl r11), Ud, Ud]) rfl rfl (does_load (u := (Fl r11)) (ev rfl) Try.isAgg25 (Cells.at (Blk.cells (((hB23.ext E32).ext E41).ext E46)) 2 rfl)) rfl ?_
  refine seqd rfl rfl (does_float (.inr (.inl rfl)) (ev rfl) (ev rfl)) ?_; rintro _ w52 ⟨r49, rfl, h50, E51⟩
  have X53 := Ext.gr X48 E51
  show wpList _ _ _ _ (fr [(.agg #[(Fl r1), (Fl r3), (Fl r5)]), (.agg #[(Fl r7), (Fl r9), (Fl r11)]), (Pt b14 0), (Pt b21 0), (Pt b29 0), (Pt b14 0), (Fl r1), (Pt b21 0), (Fl r7), (Fl r39), (Pt b14 1), (Fl r3), (Pt b21 1), (Fl r9), (Fl r44), (Pt b14 2), (Fl r5), (Pt b21 2), (Fl r11), (Fl r49), Ud]) _
  refine q_is (l' := [(.agg #[(Fl r1), (Fl r3), (Fl r5)]), (.agg #[(Fl r7), (Fl r9), (Fl r11)]), (Pt b14 0), (Pt b21 0), (Pt b29 0), (Pt b14 0), (Fl r1), (Pt b21 0), (Fl r7), (Fl r39), (Pt b14 1), (Fl r3), (Pt b21 1), (Fl r9), (Fl r44), (Pt b14 2), (Fl r5), (Pt b21 2), (Fl r11), (Fl r49), (.agg #[(Fl r39), (Fl r44), (Fl r49)])]) rfl rfl (does_build (parts' := [(0, (Fl r39)), (1, (Fl r44)), (2, (Fl r49))]) (cells := #[(Fl r39), (Fl r44), (Fl r49)]) (evp rfl) (by kernel_rfl)) rfl ?_
  refine seqn rfl rfl (does_store (n := 3) (cs := [(Fl 0), (Fl 0), (Fl 0)]) (u := (.agg #[(Fl r39), (Fl r44), (Fl r49)])) (ev rfl) (ev rfl) Try.sizeOf31 rfl (((hB31.ext E41).ext E46).ext E51) (Nat.le_of_ble_eq_true rfl) rfl) ?_; rintro _ w56 ⟨rfl, W54, hB55⟩
  change Blk _ _ [(Fl r39), (Fl r44), (Fl r49)] at hB55
  have X57 := Below.wr X53 W54 g36
  refine wpList_nil (hK38 _ _ ?_)
  refine wp_ret ?_
  refine ret_val (v := (.agg #[(Fl r39), (Fl r44), (Fl r49)])) (res_C rfl (slot rfl) (run_loadAgg (cs := [(Fl r39), (Fl r44), (Fl r49)]) Try.isAgg31 Try.sizeOf31 (Blk.cells hB55) rfl)) X57 ?_
  have x58 : cf .f32 r39 = (vsub A_a A_b).x := by first | rfl | (simp only [vsub, h2, h4, h6, h8, h10, h12, h40, h45, h50]; done) | (simp [vsub, h2, h4, h6, h8, h10, h12, h40, h45, h50]; done)
  have x59 : cf .f32 r44 = (vsub A_a A_b).y := by first | rfl | (simp only [vsub, h2, h4, h6, h8, h10, h12, h40, h45, h50]; done) | (simp [vsub, h2, h4, h6, h8, h10, h12, h40, h45, h50]; done)
  have x60 : cf .f32 r49 = (vsub A_a A_b).z := by first | rfl | (simp only [vsub, h2, h4, h6, h8, h10, h12, h40, h45, h50]; done) | (simp [vsub, h2, h4, h6, h8, h10, h12, h40, h45, h50]; done)
  exact ⟨[(Fl r39), (Fl r44), (Fl r49)], rfl, ⟨r39, r44, r49, rfl, x58, x59, x60⟩⟩

/- spec.l01Add -/
theorem c_spec_l01Add (a : List Value) (A_a : V3) (b : List Value) (A_b : V3) (w : World) (hv_a : RV3 w A_a a) (hv_b : RV3 w A_b b) : Gives Try.prog 79 #[(.agg a.toArray), (.agg b.toArray)] w (fun v w' => ∃ cs_1 : List Value, v = (.agg cs_1.toArray) ∧ RV3 w (vadd A_a A_b) cs_1) := by
  obtain ⟨r1, r3, r5, rfl, h2, h4, h6⟩ := hv_a
  obtain ⟨r7, r9, r11, rfl, h8, h10, h12⟩ := hv_b
  refine enter [(.agg #[(Fl r1), (Fl r3), (Fl r5)]), (.agg #[(Fl r7), (Fl r9), (Fl r11)]), Ud, Ud, Ud, Ud, Ud, Ud, Ud, Ud, Ud, Ud, Ud, Ud, Ud, Ud, Ud, Ud, Ud, Ud, Ud] Try.func79 rfl Try.ntmps79 rfl ?_
  refine wp_seq_k fun K13 hK13 => ?_
  refine wp_region_lit ?_
  refine seqd rfl rfl (does_box (u := (.agg #[(Fl r1), (Fl r3), (Fl r5)])) (ev rfl)) ?_; rintro _ w18 ⟨b14, rfl, hb15, hB16, E17⟩
  have g19 : w.heap.size ≤ b14 := Nat.le_trans (Below.size (Ext.refl w)) hb15
  change Blk _ _ [(Fl r1), (Fl r3), (Fl r5)] at hB16
  have X20 := Ext.gr (Ext.refl w) E17
  show wpList _ _ _ _ (fr [(.agg #[(Fl r1), (Fl r3), (Fl r5)]), (.agg #[(Fl r7), (Fl r9), (Fl r11)]), (Pt b14 0), Ud, Ud, Ud, Ud, Ud, Ud, Ud, Ud, Ud, Ud, Ud, Ud, Ud, Ud, Ud, Ud, Ud, Ud]) _
  refine seqd rfl rfl (does_box (u := (.agg #[(Fl r7), (Fl r9), (Fl r11)])) (ev rfl)) ?_; rintro _ w25 ⟨b21, rfl, hb22, hB23, E24⟩
  have n26 : b14 < b21 := Nat.lt_of_lt_of_le (Blk.lt hB16) hb22
  have g27 : w.heap.size ≤ b21 := Nat.le_trans (Below.size X20) hb22
  change Blk _ _ [(Fl r7), (Fl r9), (Fl r11)] at hB23
  have X28 := Ext.gr X20 E24
  show wpList _ _ _ _ (fr [(.agg #[(Fl r1), (Fl r3), (Fl r5)]), (.agg #[(Fl r7), (Fl r9), (Fl r11)]), (Pt b14 0), (Pt b21 0), Ud, Ud, Ud, Ud, Ud, Ud, Ud, Ud, Ud, Ud, Ud, Ud, Ud, Ud, Ud, Ud, Ud]) _
  refine seqd rfl rfl (does_alloc z31) ?_; rintro _ w33 ⟨b29, rfl, hb30, hB31, E32⟩
  have n34 : b14 < b29 := Nat.lt_of_lt_of_le (Blk.lt (hB16.ext E24)) hb30
  have n35 : b21 < b29 := Nat.lt_of_lt_of_le (Blk.lt hB23) hb30
  have g36 : w.heap.size ≤ b29 := Nat.le_trans (Below.size X28) hb30
  change Blk _ _ [(Fl 0), (Fl 0), (Fl 0)] at hB31
  have X37 := Ext.gr X28 E32
  show wpList _ _ _ _ (fr [(.agg #[(Fl r1), (Fl r3), (Fl r5)]), (.agg #[(Fl r7), (Fl r9), (Fl r11)]), (Pt b14 0), (Pt b21 0), (Pt b29 0), Ud, Ud, Ud, Ud, Ud, Ud, Ud, Ud, Ud, Ud, Ud, Ud, Ud, Ud, Ud, Ud]) _
  refine wpList_nil (hK13 _ _ ?_)
  refine wp_seq_k fun K38 hK38 => ?_
  refine wp_region_lit ?_
  refine q_is (l' := [(.agg #[(Fl r1), (Fl r3), (Fl r5)]), (.agg #[(Fl r7), (Fl r9), (Fl r11)]), (Pt b14 0), (Pt b21 0), (Pt b29 0), (Pt b14 0), Ud, Ud, Ud, Ud, Ud, Ud, Ud, Ud, Ud, Ud, Ud, Ud, Ud, Ud, Ud]) rfl rfl (does_fieldAddr (ev rfl) fa31_0) rfl ?_
  refine q_is (l' := [(.agg #[(Fl r1), (Fl r3), (Fl r5)]), (.agg #[(Fl r7), (Fl r9), (Fl r11)]), (Pt b14 0), (Pt b21 0), (Pt b29 0), (Pt b14 0), (Fl r1), Ud, Ud, Ud, Ud, Ud, Ud, Ud, Ud, Ud, Ud, Ud, Ud, Ud, Ud]) rfl rfl (does_load (u := (Fl r1)) (ev rfl) Try.isAgg25 (Cells.at (Blk.cells ((hB16.ext E24).ext E32)) 0 rfl)) rfl ?_
  refine q_is (l' := [(.agg #[(Fl r1), (Fl r3), (Fl r5)]), (.agg #[(Fl r7), (Fl r9), (Fl r11)]), (Pt b14 0), (Pt b21 0), (Pt b29 0), (Pt b14 0), (Fl r1), (Pt b21 0), Ud, Ud, Ud, Ud, Ud, Ud, Ud, Ud, Ud, Ud, Ud, Ud, Ud]) rfl rfl (does_fieldAddr (ev rfl) fa31_0) rfl ?_
  refine q_is (l' := [(.agg #[(Fl r1), (Fl r3), (Fl r5)]), (.agg #[(Fl r7), (Fl r9), (Fl r11)]), (Pt b14 0), (Pt b21 0), (Pt b29 0), (Pt b14 0), (Fl r1), (Pt b21 0), (Fl r7), Ud, Ud, Ud, Ud, Ud, Ud, Ud, Ud, Ud, Ud, Ud, Ud]) rfl rfl (does_load (u := (Fl r7)) (ev rfl) Try.isAgg25 (Cells.at (Blk.cells (hB23.ext E32)) 0 rfl)) rfl ?_
  refine seqd rfl rfl (does_float (.inl rfl) (ev rfl) (ev rfl)) ?_; rintro _ w42 ⟨r39, rfl, h40, E41⟩
  have X43 := Ext.gr X37 E41
  show wpList _ _ _ _ (fr [(.agg #[(Fl r1), (Fl r3), (Fl r5)]), (.agg #[(Fl r7), (Fl r9), (Fl r11)]), (Pt b14 0), (Pt b21 0), (Pt b29 0), (Pt b14 0), (Fl r1), (Pt b21 0), (Fl r7), (Fl r39), Ud, Ud, Ud, Ud, Ud, Ud, Ud, Ud, Ud, Ud, Ud]) _
  refine q_is (l' := [(.agg #[(Fl r1), (Fl r3), (Fl r5)]), (.agg #[(Fl r7), (Fl r9), (Fl r11)]), (Pt b14 0), (Pt b21 0), (Pt b29 0), (Pt b14 0), (Fl r1), (Pt b21 0), (Fl r7), (Fl r39), (Pt b14 1), Ud, Ud, Ud, Ud, Ud, Ud, Ud, Ud, Ud, Ud]) rfl rfl (does_fieldAddr (ev rfl) fa31_1) rfl ?_
  refine q_is (l' := [(.agg #[(Fl r1), (Fl r3), (Fl r5)]), (.agg #[(Fl r7), (Fl r9), (Fl r11)]), (Pt b14 0), (Pt b21 0), (Pt b29 0), (Pt b14 0), (Fl r1), (Pt b21 0), (Fl r7), (Fl r39), (Pt b14 1), (Fl r3), Ud, Ud, Ud, Ud, Ud, Ud, Ud, Ud, Ud]) rfl rfl (does_load (u := (Fl r3)) (ev rfl) Try.isAgg25 (Cells.at (Blk.cells (((hB16.ext E24).ext E32).ext E41)) 1 rfl)) rfl ?_
  refine q_is (l' := [(.agg #[(Fl r1), (Fl r3), (Fl r5)]), (.agg #[(Fl r7), (Fl r9), (Fl r11)]), (Pt b14 0), (Pt b21 0), (Pt b29 0), (Pt b14 0), (Fl r1), (Pt b21 0), (Fl r7), (Fl r39), (Pt b14 1), (Fl r3), (Pt b21 1), Ud, Ud, Ud, Ud, Ud, Ud, Ud, Ud]) rfl rfl (does_fieldAddr (ev rfl) fa31_1) rfl ?_
  refine q_is (l' := [(.agg #[(Fl r1), (Fl r3), (Fl r5)]), (.agg #[(Fl r7), (Fl r9), (Fl r11)]), (Pt b14 0), (Pt b21 0), (Pt b29 0), (Pt b14 0), (Fl r1), (Pt b21 0), (Fl r7), (Fl r39), (Pt b14 1), (Fl r3), (Pt b21 1), (Fl r9), Ud, Ud, Ud, Ud, Ud, Ud, Ud]) rfl rfl (does_load (u := (Fl r9)) (ev rfl) Try.isAgg25 (Cells.at (Blk.cells ((hB23.ext E32).ext E41)) 1 rfl)) rfl ?_
  refine seqd rfl rfl (does_float (.inl rfl) (ev rfl) (ev rfl)) ?_; rintro _ w47 ⟨r44, rfl, h45, E46⟩
  have X48 := Ext.gr X43 E46
  show wpList _ _ _ _ (fr [(.agg #[(Fl r1), (Fl r3), (Fl r5)]), (.agg #[(Fl r7), (Fl r9), (Fl r11)]), (Pt b14 0), (Pt b21 0), (Pt b29 0), (Pt b14 0), (Fl r1), (Pt b21 0), (Fl r7), (Fl r39), (Pt b14 1), (Fl r3), (Pt b21 1), (Fl r9), (Fl r44), Ud, Ud, Ud, Ud, Ud, Ud]) _
  refine q_is (l' := [(.agg #[(Fl r1), (Fl r3), (Fl r5)]), (.agg #[(Fl r7), (Fl r9), (Fl r11)]), (Pt b14 0), (Pt b21 0), (Pt b29 0), (Pt b14 0), (Fl r1), (Pt b21 0), (Fl r7), (Fl r39), (Pt b14 1), (Fl r3), (Pt b21 1), (Fl r9), (Fl r44), (Pt b14 2), Ud, Ud, Ud, Ud, Ud]) rfl rfl (does_fieldAddr (ev rfl) fa31_2) rfl ?_
  refine q_is (l' := [(.agg #[(Fl r1), (Fl r3), (Fl r5)]), (.agg #[(Fl r7), (Fl r9), (Fl r11)]), (Pt b14 0), (Pt b21 0), (Pt b29 0), (Pt b14 0), (Fl r1), (Pt b21 0), (Fl r7), (Fl r39), (Pt b14 1), (Fl r3), (Pt b21 1), (Fl r9), (Fl r44), (Pt b14 2), (Fl r5), Ud, Ud, Ud, Ud]) rfl rfl (does_load (u := (Fl r5)) (ev rfl) Try.isAgg25 (Cells.at (Blk.cells ((((hB16.ext E24).ext E32).ext E41).ext E46)) 2 rfl)) rfl ?_
  refine q_is (l' := [(.agg #[(Fl r1), (Fl r3), (Fl r5)]), (.agg #[(Fl r7), (Fl r9), (Fl r11)]), (Pt b14 0), (Pt b21 0), (Pt b29 0), (Pt b14 0), (Fl r1), (Pt b21 0), (Fl r7), (Fl r39), (Pt b14 1), (Fl r3), (Pt b21 1), (Fl r9), (Fl r44), (Pt b14 2), (Fl r5), (Pt b21 2), Ud, Ud, Ud]) rfl rfl (does_fieldAddr (ev rfl) fa31_2) rfl ?_
  refine q_is (l' := [(.agg #[(Fl r1), (Fl r3), (Fl r5)]), (.agg #[(Fl r7), (Fl r9), (Fl r11)]), (Pt b14 0), (Pt b21 0), (Pt b29 0), (Pt b14 0), (Fl r1), (Pt b21 0), (Fl r7), (Fl r39), (Pt b14 1), (Fl r3), (Pt b21 1), (Fl r9), (Fl r44), (Pt b14 2), (Fl r5), (Pt b21 2), (Fl r11), Ud, Ud]) rfl rfl (does_load (u := (Fl r11)) (ev rfl) Try.isAgg25 (Cells.at (Blk.cells (((hB23.ext E32).ext E41).ext E46)) 2 rfl)) rfl ?_
  refine seqd rfl rfl (does_float (.inl rfl) (ev rfl) (ev rfl)) ?_; rintro _ w52 ⟨r49, rfl, h50, E51⟩
  have X53 := Ext.gr X48 E51
  show wpList _ _ _ _ (fr [(.agg #[(Fl r1), (Fl r3), (Fl r5)]), (.agg #[(Fl r7), (Fl r9), (Fl r11)]), (Pt b14 0), (Pt b21 0), (Pt b29 0), (Pt b14 0), (Fl r1), (Pt b21 0), (Fl r7), (Fl r39), (Pt b14 1), (Fl r3), (Pt b21 1), (Fl r9), (Fl r44), (Pt b14 2), (Fl r5), (Pt b21 2), (Fl r11), (Fl r49), Ud]) _
  refine q_is (l' := [(.agg #[(Fl r1), (Fl r3), (Fl r5)]), (.agg #[(Fl r7), (Fl r9), (Fl r11)]), (Pt b14 0), (Pt b21 0), (Pt b29 0), (Pt b14 0), (Fl r1), (Pt b21 0), (Fl r7), (Fl r39), (Pt b14 1), (Fl r3), (Pt b21 1), (Fl r9), (Fl r44), (Pt b14 2), (Fl r5), (Pt b21 2), (Fl r11), (Fl r49), (.agg #[(Fl r39), (Fl r44), (Fl r49)])]) rfl rfl (does_build (parts' := [(0, (Fl r39)), (1, (Fl r44)), (2, (Fl r49))]) (cells := #[(Fl r39), (Fl r44), (Fl r49)]) (evp rfl) (by kernel_rfl)) rfl ?_
  refine seqn rfl rfl (does_store (n := 3) (cs := [(Fl 0), (Fl 0), (Fl 0)]) (u := (.agg #[(Fl r39), (Fl r44), (Fl r49)])) (ev rfl) (ev rfl) Try.sizeOf31 rfl (((hB31.ext E41).ext E46).ext E51) (Nat.le_of_ble_eq_true rfl) rfl) ?_; rintro _ w56 ⟨rfl, W54, hB55⟩
  change Blk _ _ [(Fl r39), (Fl r44), (Fl r49)] at hB55
  have X57 := Below.wr X53 W54 g36
  refine wpList_nil (hK38 _ _ ?_)
  refine wp_ret ?_
  refine ret_val (v := (.agg #[(Fl r39), (Fl r44), (Fl r49)])) (res_C rfl (slot rfl) (run_loadAgg (cs := [(Fl r39), (Fl r44), (Fl r49)]) Try.isAgg31 Try.sizeOf31 (Blk.cells hB55) rfl)) X57 ?_
  have x58 : cf .f32 r39 = (vadd A_a A_b).x := by first | rfl | (simp only [vadd, h2, h4, h6, h8, h10, h12, h40, h45, h50]; done) | (simp [vadd, h2, h4, h6, h8, h10, h12, h40, h45, h50]; done)
  have x59 : cf .f32 r44 = (vadd A_a A_b).y := by first | rfl | (simp only [vadd, h2, h4, h6, h8, h10, h12, h40, h45, h50]; done) | (simp [vadd, h2, h4, h6, h8, h10, h12, h40, h45, h50]; done)
  have x60 : cf .f32 r49 = (vadd A_a A_b).z := by first | rfl | (simp only [vadd, h2, h4, h6, h8, h10, h12, h40, h45, h50]; done) | (simp [vadd, h2, h4, h6, h8, h10, h12, h40, h45, h50]; done)
  exact ⟨[(Fl r39), (Fl r44), (Fl r49)], rfl, ⟨r39, r44, r49, rfl, x58, x59, x60⟩⟩

/- spec.GrowBox -/
theorem c_spec_GrowBox (b : List Value) (A_b : Bx) (k : Nat) (w : World) (hv_b : RBx w A_b b) : Gives Try.prog 39 #[(.agg b.toArray), (Fl k)] w (fun v w' => ∃ cs_1 : List Value, v = (.tuple #[(.agg cs_1.toArray), (Bo (growOk A_b (cf .f32 k)))]) ∧ RBx w (gvB (growOk A_b (cf .f32 k)) (growB A_b (cf .f32 k))) cs_1) := by
  obtain ⟨r1, r3, r5, r7, r9, r11, rfl, h2, h4, h6, h8, h10, h12⟩ := hv_b
  refine enter [(.agg #[(Fl r1), (Fl r3), (Fl r5), (Fl r7), (Fl r9), (Fl r11)]), (Fl k), Ud, Ud, Ud, Ud, Ud, Ud, Ud, Ud, Ud, Ud, Ud, Ud, Ud, Ud, Ud, Ud, Ud, Ud, Ud, Ud, Ud, Ud, Ud, Ud] Try.func39 rfl Try.ntmps39 rfl ?_
  refine wp_seq_k fun K13 hK13 => ?_
  refine wp_region_lit ?_
  refine seqd rfl rfl (does_box (u := (.agg #[(Fl r1), (Fl r3), (Fl r5), (Fl r7), (Fl r9), (Fl r11)])) (ev rfl)) ?_; rintro _ w18 ⟨b14, rfl, hb15, hB16, E17⟩
  have g19 : w.heap.size ≤ b14 := Nat.le_trans (Below.size (Ext.refl w)) hb15
  change Blk _ _ [(Fl r1), (Fl r3), (Fl r5), (Fl r7), (Fl r9), (Fl r11)] at hB16
  have X20 := Ext.gr (Ext.refl w) E17
  show wpList _ _ _ _ (fr [(.agg #[(Fl r1), (Fl r3), (Fl r5), (Fl r7), (Fl r9), (Fl r11)]), (Fl k), (Pt b14 0), Ud, Ud, Ud, Ud, Ud, Ud, Ud, Ud, Ud, Ud, Ud, Ud, Ud, Ud, Ud, Ud, Ud, Ud, Ud, Ud, Ud, Ud, Ud]) _
  refine seqd rfl rfl (does_alloc z33) ?_; rintro _ w25 ⟨b21, rfl, hb22, hB23, E24⟩
  have n26 : b14 < b21 := Nat.lt_of_lt_of_le (Blk.lt hB16) hb22
  have g27 : w.heap.size ≤ b21 := Nat.le_trans (Below.size X20) hb22
  change Blk _ _ [(Fl 0), (Fl 0), (Fl 0), (Fl 0), (Fl 0), (Fl 0)] at hB23
  have X28 := Ext.gr X20 E24
  show wpList _ _ _ _ (fr [(.agg #[(Fl r1), (Fl r3), (Fl r5), (Fl r7), (Fl r9), (Fl r11)]), (Fl k), (Pt b14 0), Ud, (Pt b21 0), Ud, Ud, Ud, Ud, Ud, Ud, Ud, Ud, Ud, Ud, Ud, Ud, Ud, Ud, Ud, Ud, Ud, Ud, Ud, Ud, Ud]) _
  refine q_is (l' := [(.agg #[(Fl r1), (Fl r3), (Fl r5), (Fl r7), (Fl r9), (Fl r11)]), (Fl k), (Pt b14 0), Ud, (Pt b21 0), (Bo false), Ud, Ud, Ud, Ud, Ud, Ud, Ud, Ud, Ud, Ud, Ud, Ud, Ud, Ud, Ud, Ud, Ud, Ud, Ud, Ud]) rfl rfl (does_assign (u := (Bo false)) (ev rfl)) rfl ?_
  refine wpList_nil (hK13 _ _ ?_)
  refine wp_seq_k fun K29 hK29 => ?_
  refine wp_seq_k fun K30 hK30 => ?_
  refine wp_region_lit ?_
  refine seqd rfl rfl (does_call (args := #[(Pt b14 0)]) cal51 (evs rfl) (c_spec_l04Is b14 0 [(Fl r1), (Fl r3), (Fl r5), (Fl r7), (Fl r9), (Fl r11)] A_b _ (Blk.cells (hB16.ext E24)) ⟨r1, r3, r5, r7, r9, r11, rfl, h2, h4, h6, h8, h10, h12⟩)) ?_; rintro _ w32 ⟨E31, rfl⟩
  have X33 := Ext.gr X28 E31
  show wpList _ _ _ _ (fr [(.agg #[(Fl r1), (Fl r3), (Fl r5), (Fl r7), (Fl r9), (Fl r11)]), (Fl k), (Pt b14 0), Ud, (Pt b21 0), (Bo false), Ud, (Bo (isBox A_b)), Ud, Ud, Ud, Ud, Ud, Ud, Ud, Ud, Ud, Ud, Ud, Ud, Ud, Ud, Ud, Ud, Ud, Ud]) _
  refine q_is (l' := [(.agg #[(Fl r1), (Fl r3), (Fl r5), (Fl r7), (Fl r9), (Fl r11)]), (Fl k), (Pt b14 0), Ud, (Pt b21 0), (Bo false), Ud, (Bo (isBox A_b)), (Bo (!(isBox A_b))), Ud, Ud, Ud, Ud, Ud, Ud, Ud, Ud, Ud, Ud, Ud, Ud, Ud, Ud, Ud, Ud, Ud]) rfl rfl (does_not (ev rfl)) rfl ?_
  refine wpList_nil (hK30 _ _ ?_)
  refine wp_cond_split (t := !(isBox A_b)) (ev rfl) (fun c34 => ?_) (fun c34 => ?_)
  · rw [Bool.not_eq_true'] at c34
    have c34' := c34
    refine wp_seq_k fun K35 hK35 => ?_
    refine wp_region_lit ?_
    refine q_is (l' := [(.agg #[(Fl r1), (Fl r3), (Fl r5), (Fl r7), (Fl r9), (Fl r11)]), (Fl k), (Pt b14 0), Ud, (Pt b21 0), (Bo false), Ud, (Bo (isBox A_b)), (Bo (!(isBox A_b))), (.agg #[(Fl 0), (Fl 0), (Fl 0), (Fl 0), (Fl 0), (Fl 0)]), Ud, Ud, Ud, Ud, Ud, Ud, Ud, Ud, Ud, Ud, Ud, Ud, Ud, Ud, Ud, Ud]) rfl rfl (does_build (parts' := []) (cells := #[(Fl 0), (Fl 0), (Fl 0), (Fl 0), (Fl 0), (Fl 0)]) (evp rfl) (by kernel_rfl)) rfl ?_
    refine seqn rfl rfl (does_store (n := 6) (cs := [(Fl 0), (Fl 0), (Fl 0), (Fl 0), (Fl 0), (Fl 0)]) (u := (.agg #[(Fl 0), (Fl 0), (Fl 0), (Fl 0), (Fl 0), (Fl 0)])) (ev rfl) (ev rfl) Try.sizeOf33 rfl (hB23.ext E31) (Nat.le_of_ble_eq_true rfl) rfl) ?_; rintro _ w38 ⟨rfl, W36, hB37⟩
    change Blk _ _ [(Fl 0), (Fl 0), (Fl 0), (Fl 0), (Fl 0), (Fl 0)] at hB37
    have X39 := Below.wr X33 W36 g27
    refine q_is (l' := [(.agg #[(Fl r1), (Fl r3), (Fl r5), (Fl r7), (Fl r9), (Fl r11)]), (Fl k), (Pt b14 0), Ud, (Pt b21 0), (Bo false), Ud, (Bo (isBox A_b)), (Bo (!(isBox A_b))), (.agg #[(Fl 0), (Fl 0), (Fl 0), (Fl 0), (Fl 0), (Fl 0)]), Ud, Ud, Ud, Ud, Ud, Ud, Ud, Ud, Ud, Ud, Ud, Ud, Ud, Ud, Ud, Ud]) rfl rfl (does_assign (u := (Bo false)) (ev rfl)) rfl ?_
    refine wpList_nil (hK35 _ _ ?_)
    refine wp_ret ?_
    dsimp only [Exit.then, Exit.inBlock]
    refine ret_val (v := (.tuple #[(.agg #[(Fl 0), (Fl 0), (Fl 0), (Fl 0), (Fl 0), (Fl 0)]), (Bo false)])) (res_CT rfl (slot rfl) (run_loadAgg (cs := [(Fl 0), (Fl 0), (Fl 0), (Fl 0), (Fl 0), (Fl 0)]) Try.isAgg33 Try.sizeOf33 (Blk.cells hB37) rfl) (slot rfl)) X39 ?_
    try simp only [h2, h4, h6, h8, h10, h12] at c34
    have x40 : (growOk A_b (cf .f32 k)) = false := by first | rfl | (simp only [growOk, growB, gvB_t, gvB_f, zB, zV, Bool.true_and, Bool.false_and, Bool.and_true, Bool.and_false, Bool.not_eq_true', Bool.not_eq_false', h2, h4, h6, h8, h10, h12, c34]; done) | (simp [growOk, growB, gvB_t, gvB_f, zB, zV, Bool.true_and, Bool.false_and, Bool.and_true, Bool.and_false, Bool.not_eq_true', Bool.not_eq_false', h2, h4, h6, h8, h10, h12, c34]; done) | (revert c34; simp +contextual [growOk, growB, gvB_t, gvB_f, zB, zV, Bool.true_and, Bool.false_and, Bool.and_true, Bool.and_false, Bool.not_eq_true', Bool.not_eq_false', h2, h4, h6, h8, h10, h12]; done) | (rcases c34' with hh | hh <;> simp only [hh, growOk, growB, gvB_t, gvB_f, zB, zV, Bool.true_and, Bool.false_and, Bool.and_true, Bool.and_false, Bool.not_eq_true', Bool.not_eq_false', h2, h4, h6, h8, h10, h12, c34]; done)
    have x41 : cf .f32 0 = (gvB (growOk A_b (cf .f32 k)) (growB A_b (cf .f32 k))).lo.x := by first | rfl | (simp only [growOk, growB, gvB_t, gvB_f, zB, zV, Bool.true_and, Bool.false_and, Bool.and_true, Bool.and_false, Bool.not_eq_true', Bool.not_eq_false', h2, h4, h6, h8, h10, h12, c34]; done) | (simp [growOk, growB, gvB_t, gvB_f, zB, zV, Bool.true_and, Bool.false_and, Bool.and_true, Bool.and_false, Bool.not_eq_true', Bool.not_eq_false', h2, h4, h6, h8, h10, h12, c34]; done) | (revert c34; simp +contextual [growOk, growB, gvB_t, gvB_f, zB, zV, Bool.true_and, Bool.false_and, Bool.and_true, Bool.and_false, Bool.not_eq_true', Bool.not_eq_false', h2, h4, h6, h8, h10, h12]; done) | (rcases c34' with hh | hh <;> simp only [hh, growOk, growB, gvB_t, gvB_f, zB, zV, Bool.true_and, Bool.false_and, Bool.and_true, Bool.and_false, Bool.not_eq_true', Bool.not_eq_false', h2, h4, h6, h8, h10, h12, c34]; done)
    have x42 : cf .f32 0 = (gvB (growOk A_b (cf .f32 k)) (growB A_b (cf .f32 k))).lo.y := by first | rfl | (simp only [growOk, growB, gvB_t, gvB_f, zB, zV, Bool.true_and, Bool.false_and, Bool.and_true, Bool.and_false, Bool.not_eq_true', Bool.not_eq_false', h2, h4, h6, h8, h10, h12, c34]; done) | (simp [growOk, growB, gvB_t, gvB_f, zB, zV, Bool.true_and, Bool.false_and, Bool.and_true, Bool.and_false, Bool.not_eq_true', Bool.not_eq_false', h2, h4, h6, h8, h10, h12, c34]; done) | (revert c34; simp +contextual [growOk, growB, gvB_t, gvB_f, zB, zV, Bool.true_and, Bool.false_and, Bool.and_true, Bool.and_false, Bool.not_eq_true', Bool.not_eq_false', h2, h4, h6, h8, h10, h12]; done) | (rcases c34' with hh | hh <;> simp only [hh, growOk, growB, gvB_t, gvB_f, zB, zV, Bool.true_and, Bool.false_and, Bool.and_true, Bool.and_false, Bool.not_eq_true', Bool.not_eq_false', h2, h4, h6, h8, h10, h12, c34]; done)
    have x43 : cf .f32 0 = (gvB (growOk A_b (cf .f32 k)) (growB A_b (cf .f32 k))).lo.z := by first | rfl | (simp only [growOk, growB, gvB_t, gvB_f, zB, zV, Bool.true_and, Bool.false_and, Bool.and_true, Bool.and_false, Bool.not_eq_true', Bool.not_eq_false', h2, h4, h6, h8, h10, h12, c34]; done) | (simp [growOk, growB, gvB_t, gvB_f, zB, zV, Bool.true_and, Bool.false_and, Bool.and_true, Bool.and_false, Bool.not_eq_true', Bool.not_eq_false', h2, h4, h6, h8, h10, h12, c34]; done) | (revert c34; simp +contextual [growOk, growB, gvB_t, gvB_f, zB, zV, Bool.true_and, Bool.false_and, Bool.and_true, Bool.and_false, Bool.not_eq_true', Bool.not_eq_false', h2, h4, h6, h8, h10, h12]; done) | (rcases c34' with hh | hh <;> simp only [hh, growOk, growB, gvB_t, gvB_f, zB, zV, Bool.true_and, Bool.false_and, Bool.and_true, Bool.and_false, Bool.not_eq_true', Bool.not_eq_false', h2, h4, h6, h8, h10, h12, c34]; done)
    have x44 : cf .f32 0 = (gvB (growOk A_b (cf .f32 k)) (growB A_b (cf .f32 k))).hi.x := by first | rfl | (simp only [growOk, growB, gvB_t, gvB_f, zB, zV, Bool.true_and, Bool.false_and, Bool.and_true, Bool.and_false, Bool.not_eq_true', Bool.not_eq_false', h2, h4, h6, h8, h10, h12, c34]; done) | (simp [growOk, growB, gvB_t, gvB_f, zB, zV, Bool.true_and, Bool.false_and, Bool.and_true, Bool.and_false, Bool.not_eq_true', Bool.not_eq_false', h2, h4, h6, h8, h10, h12, c34]; done) | (revert c34; simp +contextual [growOk, growB, gvB_t, gvB_f, zB, zV, Bool.true_and, Bool.false_and, Bool.and_true, Bool.and_false, Bool.not_eq_true', Bool.not_eq_false', h2, h4, h6, h8, h10, h12]; done) | (rcases c34' with hh | hh <;> simp only [hh, growOk, growB, gvB_t, gvB_f, zB, zV, Bool.true_and, Bool.false_and, Bool.and_true, Bool.and_false, Bool.not_eq_true', Bool.not_eq_false', h2, h4, h6, h8, h10, h12, c34]; done)
    have x45 : cf .f32 0 = (gvB (growOk A_b (cf .f32 k)) (growB A_b (cf .f32 k))).hi.y := by first | rfl | (simp only [growOk, growB, gvB_t, gvB_f, zB, zV, Bool.true_and, Bool.false_and, Bool.and_true, Bool.and_false, Bool.not_eq_true', Bool.not_eq_false', h2, h4, h6, h8, h10, h12, c34]; done) | (simp [growOk, growB, gvB_t, gvB_f, zB, zV, Bool.true_and, Bool.false_and, Bool.and_true, Bool.and_false, Bool.not_eq_true', Bool.not_eq_false', h2, h4, h6, h8, h10, h12, c34]; done) | (revert c34; simp +contextual [growOk, growB, gvB_t, gvB_f, zB, zV, Bool.true_and, Bool.false_and, Bool.and_true, Bool.and_false, Bool.not_eq_true', Bool.not_eq_false', h2, h4, h6, h8, h10, h12]; done) | (rcases c34' with hh | hh <;> simp only [hh, growOk, growB, gvB_t, gvB_f, zB, zV, Bool.true_and, Bool.false_and, Bool.and_true, Bool.and_false, Bool.not_eq_true', Bool.not_eq_false', h2, h4, h6, h8, h10, h12, c34]; done)
    have x46 : cf .f32 0 = (gvB (growOk A_b (cf .f32 k)) (growB A_b (cf .f32 k))).hi.z := by first | rfl | (simp only [growOk, growB, gvB_t, gvB_f, zB, zV, Bool.true_and, Bool.false_and, Bool.and_true, Bool.and_false, Bool.not_eq_true', Bool.not_eq_false', h2, h4, h6, h8, h10, h12, c34]; done) | (simp [growOk, growB, gvB_t, gvB_f, zB, zV, Bool.true_and, Bool.false_and, Bool.and_true, Bool.and_false, Bool.not_eq_true', Bool.not_eq_false', h2, h4, h6, h8, h10, h12, c34]; done) | (revert c34; simp +contextual [growOk, growB, gvB_t, gvB_f, zB, zV, Bool.true_and, Bool.false_and, Bool.and_true, Bool.and_false, Bool.not_eq_true', Bool.not_eq_false', h2, h4, h6, h8, h10, h12]; done) | (rcases c34' with hh | hh <;> simp only [hh, growOk, growB, gvB_t, gvB_f, zB, zV, Bool.true_and, Bool.false_and, Bool.and_true, Bool.and_false, Bool.not_eq_true', Bool.not_eq_false', h2, h4, h6, h8, h10, h12, c34]; done)
    exact ⟨[(Fl 0), (Fl 0), (Fl 0), (Fl 0), (Fl 0), (Fl 0)], (by first | rfl | rw [x40]), ⟨0, 0, 0, 0, 0, 0, rfl, x41, x42, x43, x44, x45, x46⟩⟩
  rw [Bool.not_eq_false'] at c34
  have c34' := c34
  refine wp_skip (hK29 _ _ ?_)
  refine wp_seq_k fun K47 hK47 => ?_
  refine wp_region_lit ?_
  refine q_is (l' := [(.agg #[(Fl r1), (Fl r3), (Fl r5), (Fl r7), (Fl r9), (Fl r11)]), (Fl k), (Pt b14 0), Ud, (Pt b21 0), (Bo false), Ud, (Bo (isBox A_b)), (Bo (!(isBox A_b))), Ud, (Fl k), Ud, Ud, Ud, Ud, Ud, Ud, Ud, Ud, Ud, Ud, Ud, Ud, Ud, Ud, Ud]) rfl rfl (does_move (u := (Fl k)) (ev rfl)) rfl ?_
  refine q_is (l' := [(.agg #[(Fl r1), (Fl r3), (Fl r5), (Fl r7), (Fl r9), (Fl r11)]), (Fl k), (Pt b14 0), Ud, (Pt b21 0), (Bo false), Ud, (Bo (isBox A_b)), (Bo (!(isBox A_b))), Ud, (Fl k), (Fl k), Ud, Ud, Ud, Ud, Ud, Ud, Ud, Ud, Ud, Ud, Ud, Ud, Ud, Ud]) rfl rfl (does_move (u := (Fl k)) (ev rfl)) rfl ?_
  refine q_is (l' := [(.agg #[(Fl r1), (Fl r3), (Fl r5), (Fl r7), (Fl r9), (Fl r11)]), (Fl k), (Pt b14 0), Ud, (Pt b21 0), (Bo false), Ud, (Bo (isBox A_b)), (Bo (!(isBox A_b))), Ud, (Fl k), (Fl k), (Fl k), Ud, Ud, Ud, Ud, Ud, Ud, Ud, Ud, Ud, Ud, Ud, Ud, Ud]) rfl rfl (does_move (u := (Fl k)) (ev rfl)) rfl ?_
  refine q_is (l' := [(.agg #[(Fl r1), (Fl r3), (Fl r5), (Fl r7), (Fl r9), (Fl r11)]), (Fl k), (Pt b14 0), Ud, (Pt b21 0), (Bo false), Ud, (Bo (isBox A_b)), (Bo (!(isBox A_b))), Ud, (Fl k), (Fl k), (Fl k), (.agg #[(Fl k), (Fl k), (Fl k)]), Ud, Ud, Ud, Ud, Ud, Ud, Ud, Ud, Ud, Ud, Ud, Ud]) rfl rfl (does_build (parts' := [(0, (Fl k)), (1, (Fl k)), (2, (Fl k))]) (cells := #[(Fl k), (Fl k), (Fl k)]) (evp rfl) (by kernel_rfl)) rfl ?_
  refine seqd rfl rfl (does_alloc z31) ?_; rintro _ w52 ⟨b48, rfl, hb49, hB50, E51⟩
  have n53 : b14 < b48 := Nat.lt_of_lt_of_le (Blk.lt ((hB16.ext E24).ext E31)) hb49
  have n54 : b21 < b48 := Nat.lt_of_lt_of_le (Blk.lt (hB23.ext E31)) hb49
  have g55 : w.heap.size ≤ b48 := Nat.le_trans (Below.size X33) hb49
  change Blk _ _ [(Fl 0), (Fl 0), (Fl 0)] at hB50
  have X56 := Ext.gr X33 E51
  show wpList _ _ _ _ (fr [(.agg #[(Fl r1), (Fl r3), (Fl r5), (Fl r7), (Fl r9), (Fl r11)]), (Fl k), (Pt b14 0), Ud, (Pt b21 0), (Bo false), (Pt b48 0), (Bo (isBox A_b)), (Bo (!(isBox A_b))), Ud, (Fl k), (Fl k), (Fl k), (.agg #[(Fl k), (Fl k), (Fl k)]), Ud, Ud, Ud, Ud, Ud, Ud, Ud, Ud, Ud, Ud, Ud, Ud]) _
  refine seqn rfl rfl (does_store (n := 3) (cs := [(Fl 0), (Fl 0), (Fl 0)]) (u := (.agg #[(Fl k), (Fl k), (Fl k)])) (ev rfl) (ev rfl) Try.sizeOf31 rfl hB50 (Nat.le_of_ble_eq_true rfl) rfl) ?_; rintro _ w59 ⟨rfl, W57, hB58⟩
  change Blk _ _ [(Fl k), (Fl k), (Fl k)] at hB58
  have X60 := Below.wr X56 W57 g55
  refine wpList_nil (hK47 _ _ ?_)
  refine wp_seq_k fun K61 hK61 => ?_
  obtain ⟨β1, hβ1⟩ : ∃ b : Bool, b = (isBox (Bx.mk (vsub A_b.lo (V3.mk (cf .f32 k) (cf .f32 k) (cf .f32 k))) (vadd A_b.hi (V3.mk (cf .f32 k) (cf .f32 k) (cf .f32 k))))) := ⟨_, rfl⟩
  refine region_draw (
    [Fact.pure [] (fun v => v = (Pt b14 0)),
    Fact.pure [14] (fun v => v = (.agg #[(Fl r1), (Fl r3), (Fl r5)])),
    Fact.pure [] (fun v => v = (.agg #[(Fl k), (Fl k), (Fl k)])),
    Fact.pure [15, 16] (fun v => ∃ cs_1 : List Value, v = (.agg cs_1.toArray) ∧ RV3 w (vsub A_b.lo (V3.mk (cf .f32 k) (cf .f32 k) (cf .f32 k))) cs_1),
    Fact.pure [] (fun v => v = (Pt b14 3)),
    Fact.pure [18] (fun v => v = (.agg #[(Fl r7), (Fl r9), (Fl r11)])),
    Fact.pure [] (fun v => v = (.agg #[(Fl k), (Fl k), (Fl k)])),
    Fact.pure [19, 20] (fun v => ∃ cs_1 : List Value, v = (.agg cs_1.toArray) ∧ RV3 w (vadd A_b.hi (V3.mk (cf .f32 k) (cf .f32 k) (cf .f32 k))) cs_1),
    Fact.pure [17, 21] (fun v => ∃ r_1 : Nat, ∃ r_2 : Nat, ∃ r_3 : Nat, ∃ r_4 : Nat, ∃ r_5 : Nat, ∃ r_6 : Nat, v = (.agg #[(Fl r_1), (Fl r_2), (Fl r_3), (Fl r_4), (Fl r_5), (Fl r_6)]) ∧ cf .f32 r_1 = (vsub A_b.lo (V3.mk (cf .f32 k) (cf .f32 k) (cf .f32 k))).x ∧ cf .f32 r_2 = (vsub A_b.lo (V3.mk (cf .f32 k) (cf .f32 k) (cf .f32 k))).y ∧ cf .f32 r_3 = (vsub A_b.lo (V3.mk (cf .f32 k) (cf .f32 k) (cf .f32 k))).z ∧ cf .f32 r_4 = (vadd A_b.hi (V3.mk (cf .f32 k) (cf .f32 k) (cf .f32 k))).x ∧ cf .f32 r_5 = (vadd A_b.hi (V3.mk (cf .f32 k) (cf .f32 k) (cf .f32 k))).y ∧ cf .f32 r_6 = (vadd A_b.hi (V3.mk (cf .f32 k) (cf .f32 k) (cf .f32 k))).z),
    Fact.pure [22] (fun v => ∃ cs_1 : List Value, v = (.tuple #[(.agg cs_1.toArray), (Bo (isBox (Bx.mk (vsub A_b.lo (V3.mk (cf .f32 k) (cf .f32 k) (cf .f32 k))) (vadd A_b.hi (V3.mk (cf .f32 k) (cf .f32 k) (cf .f32 k))))))]) ∧ RBx w (gvB (isBox (Bx.mk (vsub A_b.lo (V3.mk (cf .f32 k) (cf .f32 k) (cf .f32 k))) (vadd A_b.hi (V3.mk (cf .f32 k) (cf .f32 k) (cf .f32 k))))) (Bx.mk (vsub A_b.lo (V3.mk (cf .f32 k) (cf .f32 k) (cf .f32 k))) (vadd A_b.hi (V3.mk (cf .f32 k) (cf .f32 k) (cf .f32 k))))) cs_1),
    Fact.pure [23] (fun v => ∃ r_1 : Nat, ∃ r_2 : Nat, ∃ r_3 : Nat, ∃ r_4 : Nat, ∃ r_5 : Nat, ∃ r_6 : Nat, v = (.agg #[(Fl r_1), (Fl r_2), (Fl r_3), (Fl r_4), (Fl r_5), (Fl r_6)]) ∧ cf .f32 r_1 = (gvB (isBox (Bx.mk (vsub A_b.lo (V3.mk (cf .f32 k) (cf .f32 k) (cf .f32 k))) (vadd A_b.hi (V3.mk (cf .f32 k) (cf .f32 k) (cf .f32 k))))) (Bx.mk (vsub A_b.lo (V3.mk (cf .f32 k) (cf .f32 k) (cf .f32 k))) (vadd A_b.hi (V3.mk (cf .f32 k) (cf .f32 k) (cf .f32 k))))).lo.x ∧ cf .f32 r_2 = (gvB (isBox (Bx.mk (vsub A_b.lo (V3.mk (cf .f32 k) (cf .f32 k) (cf .f32 k))) (vadd A_b.hi (V3.mk (cf .f32 k) (cf .f32 k) (cf .f32 k))))) (Bx.mk (vsub A_b.lo (V3.mk (cf .f32 k) (cf .f32 k) (cf .f32 k))) (vadd A_b.hi (V3.mk (cf .f32 k) (cf .f32 k) (cf .f32 k))))).lo.y ∧ cf .f32 r_3 = (gvB (isBox (Bx.mk (vsub A_b.lo (V3.mk (cf .f32 k) (cf .f32 k) (cf .f32 k))) (vadd A_b.hi (V3.mk (cf .f32 k) (cf .f32 k) (cf .f32 k))))) (Bx.mk (vsub A_b.lo (V3.mk (cf .f32 k) (cf .f32 k) (cf .f32 k))) (vadd A_b.hi (V3.mk (cf .f32 k) (cf .f32 k) (cf .f32 k))))).lo.z ∧ cf .f32 r_4 = (gvB (isBox (Bx.mk (vsub A_b.lo (V3.mk (cf .f32 k) (cf .f32 k) (cf .f32 k))) (vadd A_b.hi (V3.mk (cf .f32 k) (cf .f32 k) (cf .f32 k))))) (Bx.mk (vsub A_b.lo (V3.mk (cf .f32 k) (cf .f32 k) (cf .f32 k))) (vadd A_b.hi (V3.mk (cf .f32 k) (cf .f32 k) (cf .f32 k))))).hi.x ∧ cf .f32 r_5 = (gvB (isBox (Bx.mk (vsub A_b.lo (V3.mk (cf .f32 k) (cf .f32 k) (cf .f32 k))) (vadd A_b.hi (V3.mk (cf .f32 k) (cf .f32 k) (cf .f32 k))))) (Bx.mk (vsub A_b.lo (V3.mk (cf .f32 k) (cf .f32 k) (cf .f32 k))) (vadd A_b.hi (V3.mk (cf .f32 k) (cf .f32 k) (cf .f32 k))))).hi.y ∧ cf .f32 r_6 = (gvB (isBox (Bx.mk (vsub A_b.lo (V3.mk (cf .f32 k) (cf .f32 k) (cf .f32 k))) (vadd A_b.hi (V3.mk (cf .f32 k) (cf .f32 k) (cf .f32 k))))) (Bx.mk (vsub A_b.lo (V3.mk (cf .f32 k) (cf .f32 k) (cf .f32 k))) (vadd A_b.hi (V3.mk (cf .f32 k) (cf .f32 k) (cf .f32 k))))).hi.z),
    Fact.pure [23] (fun v => v = (Bo β1))]) mixed (by kernel_rfl) (by intro _ _ d _ _ h; cases d <;> exact h) ?_
  obtain ⟨w62, hw64⟩ : ∃ w', w' = World.drew w59 := ⟨_, rfl⟩; rw [← hw64]; have E63 : Ext w59 w62 := by rw [hw64]; exact Ext.draw _
  clear hw64
  have X65 := Ext.gr X60 E63
  refine RW_d (fun v66 => [(.agg #[(Fl r1), (Fl r3), (Fl r5), (Fl r7), (Fl r9), (Fl r11)]), (Fl k), (Pt b14 0), Ud, (Pt b21 0), (Bo false), (Pt b48 0), (Bo (isBox A_b)), (Bo (!(isBox A_b))), Ud, (Fl k), (Fl k), (Fl k), (.agg #[(Fl k), (Fl k), (Fl k)]), v66, Ud, Ud, Ud, Ud, Ud, Ud, Ud, Ud, Ud, Ud, Ud]) rfl (fun _ => rfl) (fun u hu hF => ?_) (fun v66 => ?_)
  · clear hF
    refine doesG_un rfl ?_
    refine (does_fieldAddr (ev rfl) fa33_0).mono ?_; rintro _ _ ⟨rfl, rfl⟩
    exact ⟨rfl, Ext.refl _⟩
  refine RW_d (fun v67 => [(.agg #[(Fl r1), (Fl r3), (Fl r5), (Fl r7), (Fl r9), (Fl r11)]), (Fl k), (Pt b14 0), Ud, (Pt b21 0), (Bo false), (Pt b48 0), (Bo (isBox A_b)), (Bo (!(isBox A_b))), Ud, (Fl k), (Fl k), (Fl k), (.agg #[(Fl k), (Fl k), (Fl k)]), v66, v67, Ud, Ud, Ud, Ud, Ud, Ud, Ud, Ud, Ud, Ud]) rfl (fun _ => rfl) (fun u hu hF => ?_) (fun v67 => ?_)
  · have h14_ : v66 = (Pt b14 0) := hF.1
    clear hF
    obtain rfl := h14_
    refine doesG_un rfl ?_
    refine (does_loadAgg (cs := [(Fl r1), (Fl r3), (Fl r5)]) (ev rfl) Try.isAgg31 Try.sizeOf31 (Cells.sub (Blk.cells ((((((hB16.ext E24).ext E31).ext E51).wr W57 (Nat.ne_of_lt n53)).ext E63).ext hu)) 0 3) rfl).mono ?_; rintro _ _ ⟨rfl, rfl⟩
    exact ⟨rfl, Ext.refl _⟩
  refine RW_d (fun v68 => [(.agg #[(Fl r1), (Fl r3), (Fl r5), (Fl r7), (Fl r9), (Fl r11)]), (Fl k), (Pt b14 0), Ud, (Pt b21 0), (Bo false), (Pt b48 0), (Bo (isBox A_b)), (Bo (!(isBox A_b))), Ud, (Fl k), (Fl k), (Fl k), (.agg #[(Fl k), (Fl k), (Fl k)]), v66, v67, v68, Ud, Ud, Ud, Ud, Ud, Ud, Ud, Ud, Ud]) rfl (fun _ => rfl) (fun u hu hF => ?_) (fun v68 => ?_)
  · clear hF
    refine doesG_un rfl ?_
    refine (does_loadAgg (cs := [(Fl k), (Fl k), (Fl k)]) (ev rfl) Try.isAgg31 Try.sizeOf31 (Blk.cells ((hB58.ext E63).ext hu)) rfl).mono ?_; rintro _ _ ⟨rfl, rfl⟩
    exact ⟨rfl, Ext.refl _⟩
  refine RW_d (fun v69 => [(.agg #[(Fl r1), (Fl r3), (Fl r5), (Fl r7), (Fl r9), (Fl r11)]), (Fl k), (Pt b14 0), Ud, (Pt b21 0), (Bo false), (Pt b48 0), (Bo (isBox A_b)), (Bo (!(isBox A_b))), Ud, (Fl k), (Fl k), (Fl k), (.agg #[(Fl k), (Fl k), (Fl k)]), v66, v67, v68, v69, Ud, Ud, Ud, Ud, Ud, Ud, Ud, Ud]) rfl (fun _ => rfl) (fun u hu hF => ?_) (fun v69 => ?_)
  · have h15_ : v67 = (.agg #[(Fl r1), (Fl r3), (Fl r5)]) := hF.1
    have h16_ : v68 = (.agg #[(Fl k), (Fl k), (Fl k)]) := hF.2.1
    clear hF
    obtain rfl := h15_
    obtain rfl := h16_
    refine doesG_un rfl ?_
    refine (does_call (args := #[(.agg #[(Fl r1), (Fl r3), (Fl r5)]), (.agg #[(Fl k), (Fl k), (Fl k)])]) cal78 (evs rfl) (c_spec_l01Less [(Fl r1), (Fl r3), (Fl r5)] A_b.lo [(Fl k), (Fl k), (Fl k)] (V3.mk (cf .f32 k) (cf .f32 k) (cf .f32 k)) _ ⟨r1, r3, r5, rfl, h2, h4, h6⟩ ⟨k, k, k, rfl, rfl, rfl, rfl⟩)).mono ?_; rintro v u' ⟨hx, ⟨csn1, hv, k0⟩⟩
    exact ⟨⟨csn1, hv, k0⟩, hx⟩
  refine RW_d (fun v70 => [(.agg #[(Fl r1), (Fl r3), (Fl r5), (Fl r7), (Fl r9), (Fl r11)]), (Fl k), (Pt b14 0), Ud, (Pt b21 0), (Bo false), (Pt b48 0), (Bo (isBox A_b)), (Bo (!(isBox A_b))), Ud, (Fl k), (Fl k), (Fl k), (.agg #[(Fl k), (Fl k), (Fl k)]), v66, v67, v68, v69, v70, Ud, Ud, Ud, Ud, Ud, Ud, Ud]) rfl (fun _ => rfl) (fun u hu hF => ?_) (fun v70 => ?_)
  · clear hF
    refine doesG_un rfl ?_
    refine (does_fieldAddr (ev rfl) fa33_1).mono ?_; rintro _ _ ⟨rfl, rfl⟩
    exact ⟨rfl, Ext.refl _⟩
  refine RW_d (fun v71 => [(.agg #[(Fl r1), (Fl r3), (Fl r5), (Fl r7), (Fl r9), (Fl r11)]), (Fl k), (Pt b14 0), Ud, (Pt b21 0), (Bo false), (Pt b48 0), (Bo (isBox A_b)), (Bo (!(isBox A_b))), Ud, (Fl k), (Fl k), (Fl k), (.agg #[(Fl k), (Fl k), (Fl k)]), v66, v67, v68, v69, v70, v71, Ud, Ud, Ud, Ud, Ud, Ud]) rfl (fun _ => rfl) (fun u hu hF => ?_) (fun v71 => ?_)
  · have h18_ : v70 = (Pt b14 3) := hF.1
    clear hF
    obtain rfl := h18_
    refine doesG_un rfl ?_
    refine (does_loadAgg (cs := [(Fl r7), (Fl r9), (Fl r11)]) (ev rfl) Try.isAgg31 Try.sizeOf31 (Cells.sub (Blk.cells ((((((hB16.ext E24).ext E31).ext E51).wr W57 (Nat.ne_of_lt n53)).ext E63).ext hu)) 3 3) rfl).mono ?_; rintro _ _ ⟨rfl, rfl⟩
    exact ⟨rfl, Ext.refl _⟩
  refine RW_d (fun v72 => [(.agg #[(Fl r1), (Fl r3), (Fl r5), (Fl r7), (Fl r9), (Fl r11)]), (Fl k), (Pt b14 0), Ud, (Pt b21 0), (Bo false), (Pt b48 0), (Bo (isBox A_b)), (Bo (!(isBox A_b))), Ud, (Fl k), (Fl k), (Fl k), (.agg #[(Fl k), (Fl k), (Fl k)]), v66, v67, v68, v69, v70, v71, v72, Ud, Ud, Ud, Ud, Ud]) rfl (fun _ => rfl) (fun u hu hF => ?_) (fun v72 => ?_)
  · clear hF
    refine doesG_un rfl ?_
    refine (does_loadAgg (cs := [(Fl k), (Fl k), (Fl k)]) (ev rfl) Try.isAgg31 Try.sizeOf31 (Blk.cells ((hB58.ext E63).ext hu)) rfl).mono ?_; rintro _ _ ⟨rfl, rfl⟩
    exact ⟨rfl, Ext.refl _⟩
  refine RW_d (fun v73 => [(.agg #[(Fl r1), (Fl r3), (Fl r5), (Fl r7), (Fl r9), (Fl r11)]), (Fl k), (Pt b14 0), Ud, (Pt b21 0), (Bo false), (Pt b48 0), (Bo (isBox A_b)), (Bo (!(isBox A_b))), Ud, (Fl k), (Fl k), (Fl k), (.agg #[(Fl k), (Fl k), (Fl k)]), v66, v67, v68, v69, v70, v71, v72, v73, Ud, Ud, Ud, Ud]) rfl (fun _ => rfl) (fun u hu hF => ?_) (fun v73 => ?_)
  · have h19_ : v71 = (.agg #[(Fl r7), (Fl r9), (Fl r11)]) := hF.1
    have h20_ : v72 = (.agg #[(Fl k), (Fl k), (Fl k)]) := hF.2.1
    clear hF
    obtain rfl := h19_
    obtain rfl := h20_
    refine doesG_un rfl ?_
    refine (does_call (args := #[(.agg #[(Fl r7), (Fl r9), (Fl r11)]), (.agg #[(Fl k), (Fl k), (Fl k)])]) cal79 (evs rfl) (c_spec_l01Add [(Fl r7), (Fl r9), (Fl r11)] A_b.hi [(Fl k), (Fl k), (Fl k)] (V3.mk (cf .f32 k) (cf .f32 k) (cf .f32 k)) _ ⟨r7, r9, r11, rfl, h8, h10, h12⟩ ⟨k, k, k, rfl, rfl, rfl, rfl⟩)).mono ?_; rintro v u' ⟨hx, ⟨csn1, hv, k0⟩⟩
    exact ⟨⟨csn1, hv, k0⟩, hx⟩
  refine RW_d (fun v74 => [(.agg #[(Fl r1), (Fl r3), (Fl r5), (Fl r7), (Fl r9), (Fl r11)]), (Fl k), (Pt b14 0), Ud, (Pt b21 0), (Bo false), (Pt b48 0), (Bo (isBox A_b)), (Bo (!(isBox A_b))), Ud, (Fl k), (Fl k), (Fl k), (.agg #[(Fl k), (Fl k), (Fl k)]), v66, v67, v68, v69, v70, v71, v72, v73, v74, Ud, Ud, Ud]) rfl (fun _ => rfl) (fun u hu hF => ?_) (fun v74 => ?_)
  · have h17_ : ∃ cs_1 : List Value, v69 = (.agg cs_1.toArray) ∧ RV3 w (vsub A_b.lo (V3.mk (cf .f32 k) (cf .f32 k) (cf .f32 k))) cs_1 := hF.1
    have h21_ : ∃ cs_1 : List Value, v73 = (.agg cs_1.toArray) ∧ RV3 w (vadd A_b.hi (V3.mk (cf .f32 k) (cf .f32 k) (cf .f32 k))) cs_1 := hF.2.1
    clear hF
    obtain ⟨_, rfl, ⟨r17_1, r17_3, r17_5, rfl, h17_2, h17_4, h17_6⟩⟩ := h17_
    obtain ⟨_, rfl, ⟨r21_1, r21_3, r21_5, rfl, h21_2, h21_4, h21_6⟩⟩ := h21_
    refine doesG_un rfl ?_
    refine (does_build (parts' := [(0, (.agg #[(Fl r17_1), (Fl r17_3), (Fl r17_5)])), (1, (.agg #[(Fl r21_1), (Fl r21_3), (Fl r21_5)]))]) (cells := #[(Fl r17_1), (Fl r17_3), (Fl r17_5), (Fl r21_1), (Fl r21_3), (Fl r21_5)]) (evp rfl) (by kernel_rfl)).mono ?_; rintro _ _ ⟨rfl, rfl⟩
    exact ⟨⟨r17_1, r17_3, r17_5, r21_1, r21_3, r21_5, rfl, (by simp only [h17_2, h17_4, h17_6, h21_2, h21_4, h21_6]), (by simp only [h17_2, h17_4, h17_6, h21_2, h21_4, h21_6]), (by simp only [h17_2, h17_4, h17_6, h21_2, h21_4, h21_6]), (by simp only [h17_2, h17_4, h17_6, h21_2, h21_4, h21_6]), (by simp only [h17_2, h17_4, h17_6, h21_2, h21_4, h21_6]), (by simp only [h17_2, h17_4, h17_6, h21_2, h21_4, h21_6])⟩, Ext.refl _⟩
  refine RW_d (fun v75 => [(.agg #[(Fl r1), (Fl r3), (Fl r5), (Fl r7), (Fl r9), (Fl r11)]), (Fl k), (Pt b14 0), Ud, (Pt b21 0), (Bo false), (Pt b48 0), (Bo (isBox A_b)), (Bo (!(isBox A_b))), Ud, (Fl k), (Fl k), (Fl k), (.agg #[(Fl k), (Fl k), (Fl k)]), v66, v67, v68, v69, v70, v71, v72, v73, v74, v75, Ud, Ud]) rfl (fun _ => rfl) (fun u hu hF => ?_) (fun v75 => ?_)
  · have h22_ : ∃ r_1 : Nat, ∃ r_2 : Nat, ∃ r_3 : Nat, ∃ r_4 : Nat, ∃ r_5 : Nat, ∃ r_6 : Nat, v74 = (.agg #[(Fl r_1), (Fl r_2), (Fl r_3), (Fl r_4), (Fl r_5), (Fl r_6)]) ∧ cf .f32 r_1 = (vsub A_b.lo (V3.mk (cf .f32 k) (cf .f32 k) (cf .f32 k))).x ∧ cf .f32 r_2 = (vsub A_b.lo (V3.mk (cf .f32 k) (cf .f32 k) (cf .f32 k))).y ∧ cf .f32 r_3 = (vsub A_b.lo (V3.mk (cf .f32 k) (cf .f32 k) (cf .f32 k))).z ∧ cf .f32 r_4 = (vadd A_b.hi (V3.mk (cf .f32 k) (cf .f32 k) (cf .f32 k))).x ∧ cf .f32 r_5 = (vadd A_b.hi (V3.mk (cf .f32 k) (cf .f32 k) (cf .f32 k))).y ∧ cf .f32 r_6 = (vadd A_b.hi (V3.mk (cf .f32 k) (cf .f32 k) (cf .f32 k))).z := hF.1
    clear hF
    obtain ⟨r22_1, r22_3, r22_5, r22_7, r22_9, r22_11, rfl, h22_2, h22_4, h22_6, h22_8, h22_10, h22_12⟩ := h22_
    refine doesG_un rfl ?_
    refine (does_call (args := #[(.agg #[(Fl r22_1), (Fl r22_3), (Fl r22_5), (Fl r22_7), (Fl r22_9), (Fl r22_11)])]) cal77 (evs rfl) (c_spec_l04Give [(Fl r22_1), (Fl r22_3), (Fl r22_5), (Fl r22_7), (Fl r22_9), (Fl r22_11)] (Bx.mk (vsub A_b.lo (V3.mk (cf .f32 k) (cf .f32 k) (cf .f32 k))) (vadd A_b.hi (V3.mk (cf .f32 k) (cf .f32 k) (cf .f32 k)))) _ ⟨r22_1, r22_3, r22_5, r22_7, r22_9, r22_11, rfl, (by assumption), (by assumption), (by assumption), (by assumption), (by assumption), (by assumption)⟩)).mono ?_; rintro v u' ⟨hx, ⟨csn1, hv, k0⟩⟩
    exact ⟨⟨csn1, hv.trans (by simp only [h22_2, h22_4, h22_6, h22_8, h22_10, h22_12]), (by first | exact k0 | simpa only [h22_2, h22_4, h22_6, h22_8, h22_10, h22_12] using RBx.any (w := w) k0)⟩, hx⟩
  refine RW_d (fun v76 => [(.agg #[(Fl r1), (Fl r3), (Fl r5), (Fl r7), (Fl r9), (Fl r11)]), (Fl k), (Pt b14 0), Ud, (Pt b21 0), (Bo false), (Pt b48 0), (Bo (isBox A_b)), (Bo (!(isBox A_b))), Ud, (Fl k), (Fl k), (Fl k), (.agg #[(Fl k), (Fl k), (Fl k)]), v66, v67, v68, v69, v70, v71, v72, v73, v74, v75, v76, Ud]) rfl (fun _ => rfl) (fun u hu hF => ?_) (fun v76 => ?_)
  · have h23_ : ∃ cs_1 : List Value, v75 = (.tuple #[(.agg cs_1.toArray), (Bo (isBox (Bx.mk (vsub A_b.lo (V3.mk (cf .f32 k) (cf .f32 k) (cf .f32 k))) (vadd A_b.hi (V3.mk (cf .f32 k) (cf .f32 k) (cf .f32 k))))))]) ∧ RBx w (gvB (isBox (Bx.mk (vsub A_b.lo (V3.mk (cf .f32 k) (cf .f32 k) (cf .f32 k))) (vadd A_b.hi (V3.mk (cf .f32 k) (cf .f32 k) (cf .f32 k))))) (Bx.mk (vsub A_b.lo (V3.mk (cf .f32 k) (cf .f32 k) (cf .f32 k))) (vadd A_b.hi (V3.mk (cf .f32 k) (cf .f32 k) (cf .f32 k))))) cs_1 := hF.1
    clear hF
    obtain ⟨_, rfl, ⟨r23_1, r23_3, r23_5, r23_7, r23_9, r23_11, rfl, h23_2, h23_4, h23_6, h23_8, h23_10, h23_12⟩⟩ := h23_
    refine doesG_un rfl ?_
    refine (does_extract (vs := #[(.agg #[(Fl r23_1), (Fl r23_3), (Fl r23_5), (Fl r23_7), (Fl r23_9), (Fl r23_11)]), (Bo (isBox (Bx.mk (vsub A_b.lo (V3.mk (cf .f32 k) (cf .f32 k) (cf .f32 k))) (vadd A_b.hi (V3.mk (cf .f32 k) (cf .f32 k) (cf .f32 k))))))]) (u := (.agg #[(Fl r23_1), (Fl r23_3), (Fl r23_5), (Fl r23_7), (Fl r23_9), (Fl r23_11)])) (ev rfl) rfl).mono ?_; rintro _ _ ⟨rfl, rfl⟩
    exact ⟨⟨r23_1, r23_3, r23_5, r23_7, r23_9, r23_11, rfl, (by simp only [h23_2, h23_4, h23_6, h23_8, h23_10, h23_12]), (by simp only [h23_2, h23_4, h23_6, h23_8, h23_10, h23_12]), (by simp only [h23_2, h23_4, h23_6, h23_8, h23_10, h23_12]), (by simp only [h23_2, h23_4, h23_6, h23_8, h23_10, h23_12]), (by simp only [h23_2, h23_4, h23_6, h23_8, h23_10, h23_12]), (by simp only [h23_2, h23_4, h23_6, h23_8, h23_10, h23_12])⟩, Ext.refl _⟩
  refine RW_d (fun v77 => [(.agg #[(Fl r1), (Fl r3), (Fl r5), (Fl r7), (Fl r9), (Fl r11)]), (Fl k), (Pt b14 0), Ud, (Pt b21 0), (Bo false), (Pt b48 0), (Bo (isBox A_b)), (Bo (!(isBox A_b))), Ud, (Fl k), (Fl k), (Fl k), (.agg #[(Fl k), (Fl k), (Fl k)]), v66, v67, v68, v69, v70, v71, v72, v73, v74, v75, v76, v77]) rfl (fun _ => rfl) (fun u hu hF => ?_) (fun v77 => ?_)
  · have h23_ : ∃ cs_1 : List Value, v75 = (.tuple #[(.agg cs_1.toArray), (Bo (isBox (Bx.mk (vsub A_b.lo (V3.mk (cf .f32 k) (cf .f32 k) (cf .f32 k))) (vadd A_b.hi (V3.mk (cf .f32 k) (cf .f32 k) (cf .f32 k))))))]) ∧ RBx w (gvB (isBox (Bx.mk (vsub A_b.lo (V3.mk (cf .f32 k) (cf .f32 k) (cf .f32 k))) (vadd A_b.hi (V3.mk (cf .f32 k) (cf .f32 k) (cf .f32 k))))) (Bx.mk (vsub A_b.lo (V3.mk (cf .f32 k) (cf .f32 k) (cf .f32 k))) (vadd A_b.hi (V3.mk (cf .f32 k) (cf .f32 k) (cf .f32 k))))) cs_1 := hF.1
    clear hF
    obtain ⟨_, rfl, ⟨r23_1, r23_3, r23_5, r23_7, r23_9, r23_11, rfl, h23_2, h23_4, h23_6, h23_8, h23_10, h23_12⟩⟩ := h23_
    refine doesG_un rfl ?_
    refine (does_extract (vs := #[(.agg #[(Fl r23_1), (Fl r23_3), (Fl r23_5), (Fl r23_7), (Fl r23_9), (Fl r23_11)]), (Bo (isBox (Bx.mk (vsub A_b.lo (V3.mk (cf .f32 k) (cf .f32 k) (cf .f32 k))) (vadd A_b.hi (V3.mk (cf .f32 k) (cf .f32 k) (cf .f32 k))))))]) (u := (Bo (isBox (Bx.mk (vsub A_b.lo (V3.mk (cf .f32 k) (cf .f32 k) (cf .f32 k))) (vadd A_b.hi (V3.mk (cf .f32 k) (cf .f32 k) (cf .f32 k))))))) (ev rfl) rfl).mono ?_; rintro _ _ ⟨rfl, rfl⟩
    exact ⟨(by first | rfl | (show _ = _; simp only [hβ1, h23_2, h23_4, h23_6, h23_8, h23_10, h23_12])), Ext.refl _⟩
  refine RW_fin ?_; intro w78 E79 hP80
  obtain ⟨⟨⟨⟨⟨⟨⟨⟨⟨⟨⟨⟨-, -⟩, -⟩, -⟩, -⟩, -⟩, -⟩, -⟩, -⟩, -⟩, -⟩, q81⟩, q82⟩ := hP80
  have X83 := Ext.gr X65 E79
  have q81 : ∃ r_1 : Nat, ∃ r_2 : Nat, ∃ r_3 : Nat, ∃ r_4 : Nat, ∃ r_5 : Nat, ∃ r_6 : Nat, v76 = (.agg #[(Fl r_1), (Fl r_2), (Fl r_3), (Fl r_4), (Fl r_5), (Fl r_6)]) ∧ cf .f32 r_1 = (gvB (isBox (Bx.mk (vsub A_b.lo (V3.mk (cf .f32 k) (cf .f32 k) (cf .f32 k))) (vadd A_b.hi (V3.mk (cf .f32 k) (cf .f32 k) (cf .f32 k))))) (Bx.mk (vsub A_b.lo (V3.mk (cf .f32 k) (cf .f32 k) (cf .f32 k))) (vadd A_b.hi (V3.mk (cf .f32 k) (cf .f32 k) (cf .f32 k))))).lo.x ∧ cf .f32 r_2 = (gvB (isBox (Bx.mk (vsub A_b.lo (V3.mk (cf .f32 k) (cf .f32 k) (cf .f32 k))) (vadd A_b.hi (V3.mk (cf .f32 k) (cf .f32 k) (cf .f32 k))))) (Bx.mk (vsub A_b.lo (V3.mk (cf .f32 k) (cf .f32 k) (cf .f32 k))) (vadd A_b.hi (V3.mk (cf .f32 k) (cf .f32 k) (cf .f32 k))))).lo.y ∧ cf .f32 r_3 = (gvB (isBox (Bx.mk (vsub A_b.lo (V3.mk (cf .f32 k) (cf .f32 k) (cf .f32 k))) (vadd A_b.hi (V3.mk (cf .f32 k) (cf .f32 k) (cf .f32 k))))) (Bx.mk (vsub A_b.lo (V3.mk (cf .f32 k) (cf .f32 k) (cf .f32 k))) (vadd A_b.hi (V3.mk (cf .f32 k) (cf .f32 k) (cf .f32 k))))).lo.z ∧ cf .f32 r_4 = (gvB (isBox (Bx.mk (vsub A_b.lo (V3.mk (cf .f32 k) (cf .f32 k) (cf .f32 k))) (vadd A_b.hi (V3.mk (cf .f32 k) (cf .f32 k) (cf .f32 k))))) (Bx.mk (vsub A_b.lo (V3.mk (cf .f32 k) (cf .f32 k) (cf .f32 k))) (vadd A_b.hi (V3.mk (cf .f32 k) (cf .f32 k) (cf .f32 k))))).hi.x ∧ cf .f32 r_5 = (gvB (isBox (Bx.mk (vsub A_b.lo (V3.mk (cf .f32 k) (cf .f32 k) (cf .f32 k))) (vadd A_b.hi (V3.mk (cf .f32 k) (cf .f32 k) (cf .f32 k))))) (Bx.mk (vsub A_b.lo (V3.mk (cf .f32 k) (cf .f32 k) (cf .f32 k))) (vadd A_b.hi (V3.mk (cf .f32 k) (cf .f32 k) (cf .f32 k))))).hi.y ∧ cf .f32 r_6 = (gvB (isBox (Bx.mk (vsub A_b.lo (V3.mk (cf .f32 k) (cf .f32 k) (cf .f32 k))) (vadd A_b.hi (V3.mk (cf .f32 k) (cf .f32 k) (cf .f32 k))))) (Bx.mk (vsub A_b.lo (V3.mk (cf .f32 k) (cf .f32 k) (cf .f32 k))) (vadd A_b.hi (V3.mk (cf .f32 k) (cf .f32 k) (cf .f32 k))))).hi.z := q81
  obtain ⟨r84, r86, r88, r90, r92, r94, rfl, h85, h87, h89, h91, h93, h95⟩ := q81
  have q82 : v77 = (Bo β1) := q82
  obtain rfl := q82
  show wpList _ _ _ _ (fr [(.agg #[(Fl r1), (Fl r3), (Fl r5), (Fl r7), (Fl r9), (Fl r11)]), (Fl k), (Pt b14 0), Ud, (Pt b21 0), (Bo false), (Pt b48 0), (Bo (isBox A_b)), (Bo (!(isBox A_b))), Ud, (Fl k), (Fl k), (Fl k), (.agg #[(Fl k), (Fl k), (Fl k)]), v66, v67, v68, v69, v70, v71, v72, v73, v74, v75, (.agg #[(Fl r84), (Fl r86), (Fl r88), (Fl r90), (Fl r92), (Fl r94)]), (Bo β1)]) _
  refine seqn rfl rfl (does_store (n := 6) (cs := [(Fl 0), (Fl 0), (Fl 0), (Fl 0), (Fl 0), (Fl 0)]) (u := (.agg #[(Fl r84), (Fl r86), (Fl r88), (Fl r90), (Fl r92), (Fl r94)])) (ev rfl) (ev rfl) Try.sizeOf33 rfl (((((hB23.ext E31).ext E51).wr W57 (Nat.ne_of_lt n54)).ext E63).ext E79) (Nat.le_of_ble_eq_true rfl) rfl) ?_; rintro _ w98 ⟨rfl, W96, hB97⟩
  change Blk _ _ [(Fl r84), (Fl r86), (Fl r88), (Fl r90), (Fl r92), (Fl r94)] at hB97
  have X99 := Below.wr X83 W96 g27
  refine q_is (l' := [(.agg #[(Fl r1), (Fl r3), (Fl r5), (Fl r7), (Fl r9), (Fl r11)]), (Fl k), (Pt b14 0), Ud, (Pt b21 0), (Bo β1), (Pt b48 0), (Bo (isBox A_b)), (Bo (!(isBox A_b))), Ud, (Fl k), (Fl k), (Fl k), (.agg #[(Fl k), (Fl k), (Fl k)]), v66, v67, v68, v69, v70, v71, v72, v73, v74, v75, (.agg #[(Fl r84), (Fl r86), (Fl r88), (Fl r90), (Fl r92), (Fl r94)]), (Bo β1)]) rfl rfl (does_assign (u := (Bo β1)) (ev rfl)) rfl ?_
  refine wpList_nil (hK61 _ _ ?_)
  refine wp_ret ?_
  refine ret_val (v := (.tuple #[(.agg #[(Fl r84), (Fl r86), (Fl r88), (Fl r90), (Fl r92), (Fl r94)]), (Bo β1)])) (res_CT rfl (slot rfl) (run_loadAgg (cs := [(Fl r84), (Fl r86), (Fl r88), (Fl r90), (Fl r92), (Fl r94)]) Try.isAgg33 Try.sizeOf33 (Blk.cells hB97) rfl) (slot rfl)) X99 ?_
  try simp only [h2, h4, h6, h8, h10, h12, hβ1, h85, h87, h89, h91, h93, h95] at c34
  have x100 : (growOk A_b (cf .f32 k)) = β1 := by first | rfl | (simp only [growOk, growB, gvB_t, gvB_f, zB, zV, Bool.true_and, Bool.false_and, Bool.and_true, Bool.and_false, Bool.not_eq_true', Bool.not_eq_false', h2, h4, h6, h8, h10, h12, hβ1, h85, h87, h89, h91, h93, h95, c34]; done) | (simp [growOk, growB, gvB_t, gvB_f, zB, zV, Bool.true_and, Bool.false_and, Bool.and_true, Bool.and_false, Bool.not_eq_true', Bool.not_eq_false', h2, h4, h6, h8, h10, h12, hβ1, h85, h87, h89, h91, h93, h95, c34]; done) | (revert c34; simp +contextual [growOk, growB, gvB_t, gvB_f, zB, zV, Bool.true_and, Bool.false_and, Bool.and_true, Bool.and_false, Bool.not_eq_true', Bool.not_eq_false', h2, h4, h6, h8, h10, h12, hβ1, h85, h87, h89, h91, h93, h95]; done) | (rcases c34' with hh | hh <;> simp only [hh, growOk, growB, gvB_t, gvB_f, zB, zV, Bool.true_and, Bool.false_and, Bool.and_true, Bool.and_false, Bool.not_eq_true', Bool.not_eq_false', h2, h4, h6, h8, h10, h12, hβ1, h85, h87, h89, h91, h93, h95, c34]; done)
  have x101 : cf .f32 r84 = (gvB (growOk A_b (cf .f32 k)) (growB A_b (cf .f32 k))).lo.x := by first | rfl | (simp only [growOk, growB, gvB_t, gvB_f, zB, zV, Bool.true_and, Bool.false_and, Bool.and_true, Bool.and_false, Bool.not_eq_true', Bool.not_eq_false', h2, h4, h6, h8, h10, h12, hβ1, h85, h87, h89, h91, h93, h95, c34]; done) | (simp [growOk, growB, gvB_t, gvB_f, zB, zV, Bool.true_and, Bool.false_and, Bool.and_true, Bool.and_false, Bool.not_eq_true', Bool.not_eq_false', h2, h4, h6, h8, h10, h12, hβ1, h85, h87, h89, h91, h93, h95, c34]; done) | (revert c34; simp +contextual [growOk, growB, gvB_t, gvB_f, zB, zV, Bool.true_and, Bool.false_and, Bool.and_true, Bool.and_false, Bool.not_eq_true', Bool.not_eq_false', h2, h4, h6, h8, h10, h12, hβ1, h85, h87, h89, h91, h93, h95]; done) | (rcases c34' with hh | hh <;> simp only [hh, growOk, growB, gvB_t, gvB_f, zB, zV, Bool.true_and, Bool.false_and, Bool.and_true, Bool.and_false, Bool.not_eq_true', Bool.not_eq_false', h2, h4, h6, h8, h10, h12, hβ1, h85, h87, h89, h91, h93, h95, c34]; done)
  have x102 : cf .f32 r86 = (gvB (growOk A_b (cf .f32 k)) (growB A_b (cf .f32 k))).lo.y := by first | rfl | (simp only [growOk, growB, gvB_t, gvB_f, zB, zV, Bool.true_and, Bool.false_and, Bool.and_true, Bool.and_false, Bool.not_eq_true', Bool.not_eq_false', h2, h4, h6, h8, h10, h12, hβ1, h85, h87, h89, h91, h93, h95, c34]; done) | (simp [growOk, growB, gvB_t, gvB_f, zB, zV, Bool.true_and, Bool.false_and, Bool.and_true, Bool.and_false, Bool.not_eq_true', Bool.not_eq_false', h2, h4, h6, h8, h10, h12, hβ1, h85, h87, h89, h91, h93, h95, c34]; done) | (revert c34; simp +contextual [growOk, growB, gvB_t, gvB_f, zB, zV, Bool.true_and, Bool.false_and, Bool.and_true, Bool.and_false, Bool.not_eq_true', Bool.not_eq_false', h2, h4, h6, h8, h10, h12, hβ1, h85, h87, h89, h91, h93, h95]; done) | (rcases c34' with hh | hh <;> simp only [hh, growOk, growB, gvB_t, gvB_f, zB, zV, Bool.true_and, Bool.false_and, Bool.and_true, Bool.and_false, Bool.not_eq_true', Bool.not_eq_false', h2, h4, h6, h8, h10, h12, hβ1, h85, h87, h89, h91, h93, h95, c34]; done)
  have x103 : cf .f32 r88 = (gvB (growOk A_b (cf .f32 k)) (growB A_b (cf .f32 k))).lo.z := by first | rfl | (simp only [growOk, growB, gvB_t, gvB_f, zB, zV, Bool.true_and, Bool.false_and, Bool.and_true, Bool.and_false, Bool.not_eq_true', Bool.not_eq_false', h2, h4, h6, h8, h10, h12, hβ1, h85, h87, h89, h91, h93, h95, c34]; done) | (simp [growOk, growB, gvB_t, gvB_f, zB, zV, Bool.true_and, Bool.false_and, Bool.and_true, Bool.and_false, Bool.not_eq_true', Bool.not_eq_false', h2, h4, h6, h8, h10, h12, hβ1, h85, h87, h89, h91, h93, h95, c34]; done) | (revert c34; simp +contextual [growOk, growB, gvB_t, gvB_f, zB, zV, Bool.true_and, Bool.false_and, Bool.and_true, Bool.and_false, Bool.not_eq_true', Bool.not_eq_false', h2, h4, h6, h8, h10, h12, hβ1, h85, h87, h89, h91, h93, h95]; done) | (rcases c34' with hh | hh <;> simp only [hh, growOk, growB, gvB_t, gvB_f, zB, zV, Bool.true_and, Bool.false_and, Bool.and_true, Bool.and_false, Bool.not_eq_true', Bool.not_eq_false', h2, h4, h6, h8, h10, h12, hβ1, h85, h87, h89, h91, h93, h95, c34]; done)
  have x104 : cf .f32 r90 = (gvB (growOk A_b (cf .f32 k)) (growB A_b (cf .f32 k))).hi.x := by first | rfl | (simp only [growOk, growB, gvB_t, gvB_f, zB, zV, Bool.true_and, Bool.false_and, Bool.and_true, Bool.and_false, Bool.not_eq_true', Bool.not_eq_false', h2, h4, h6, h8, h10, h12, hβ1, h85, h87, h89, h91, h93, h95, c34]; done) | (simp [growOk, growB, gvB_t, gvB_f, zB, zV, Bool.true_and, Bool.false_and, Bool.and_true, Bool.and_false, Bool.not_eq_true', Bool.not_eq_false', h2, h4, h6, h8, h10, h12, hβ1, h85, h87, h89, h91, h93, h95, c34]; done) | (revert c34; simp +contextual [growOk, growB, gvB_t, gvB_f, zB, zV, Bool.true_and, Bool.false_and, Bool.and_true, Bool.and_false, Bool.not_eq_true', Bool.not_eq_false', h2, h4, h6, h8, h10, h12, hβ1, h85, h87, h89, h91, h93, h95]; done) | (rcases c34' with hh | hh <;> simp only [hh, growOk, growB, gvB_t, gvB_f, zB, zV, Bool.true_and, Bool.false_and, Bool.and_true, Bool.and_false, Bool.not_eq_true', Bool.not_eq_false', h2, h4, h6, h8, h10, h12, hβ1, h85, h87, h89, h91, h93, h95, c34]; done)
  have x105 : cf .f32 r92 = (gvB (growOk A_b (cf .f32 k)) (growB A_b (cf .f32 k))).hi.y := by first | rfl | (simp only [growOk, growB, gvB_t, gvB_f, zB, zV, Bool.true_and, Bool.false_and, Bool.and_true, Bool.and_false, Bool.not_eq_true', Bool.not_eq_false', h2, h4, h6, h8, h10, h12, hβ1, h85, h87, h89, h91, h93, h95, c34]; done) | (simp [growOk, growB, gvB_t, gvB_f, zB, zV, Bool.true_and, Bool.false_and, Bool.and_true, Bool.and_false, Bool.not_eq_true', Bool.not_eq_false', h2, h4, h6, h8, h10, h12, hβ1, h85, h87, h89, h91, h93, h95, c34]; done) | (revert c34; simp +contextual [growOk, growB, gvB_t, gvB_f, zB, zV, Bool.true_and, Bool.false_and, Bool.and_true, Bool.and_false, Bool.not_eq_true', Bool.not_eq_false', h2, h4, h6, h8, h10, h12, hβ1, h85, h87, h89, h91, h93, h95]; done) | (rcases c34' with hh | hh <;> simp only [hh, growOk, growB, gvB_t, gvB_f, zB, zV, Bool.true_and, Bool.false_and, Bool.and_true, Bool.and_false, Bool.not_eq_true', Bool.not_eq_false', h2, h4, h6, h8, h10, h12, hβ1, h85, h87, h89, h91, h93, h95, c34]; done)
  have x106 : cf .f32 r94 = (gvB (growOk A_b (cf .f32 k)) (growB A_b (cf .f32 k))).hi.z := by first | rfl | (simp only [growOk, growB, gvB_t, gvB_f, zB, zV, Bool.true_and, Bool.false_and, Bool.and_true, Bool.and_false, Bool.not_eq_true', Bool.not_eq_false', h2, h4, h6, h8, h10, h12, hβ1, h85, h87, h89, h91, h93, h95, c34]; done) | (simp [growOk, growB, gvB_t, gvB_f, zB, zV, Bool.true_and, Bool.false_and, Bool.and_true, Bool.and_false, Bool.not_eq_true', Bool.not_eq_false', h2, h4, h6, h8, h10, h12, hβ1, h85, h87, h89, h91, h93, h95, c34]; done) | (revert c34; simp +contextual [growOk, growB, gvB_t, gvB_f, zB, zV, Bool.true_and, Bool.false_and, Bool.and_true, Bool.and_false, Bool.not_eq_true', Bool.not_eq_false', h2, h4, h6, h8, h10, h12, hβ1, h85, h87, h89, h91, h93, h95]; done) | (rcases c34' with hh | hh <;> simp only [hh, growOk, growB, gvB_t, gvB_f, zB, zV, Bool.true_and, Bool.false_and, Bool.and_true, Bool.and_false, Bool.not_eq_true', Bool.not_eq_false', h2, h4, h6, h8, h10, h12, hβ1, h85, h87, h89, h91, h93, h95, c34]; done)
  exact ⟨[(Fl r84), (Fl r86), (Fl r88), (Fl r90), (Fl r92), (Fl r94)], (by first | rfl | rw [x100]), ⟨r84, r86, r88, r90, r92, r94, rfl, x101, x102, x103, x104, x105, x106⟩⟩

/- impl.LessVectors -/
theorem c_impl_LessVectors (a : List Value) (A_a : V3) (b : List Value) (A_b : V3) (w : World) (hv_a : RV3 w A_a a) (hv_b : RV3 w A_b b) : Gives Try.prog 59 #[(.agg a.toArray), (.agg b.toArray)] w (fun v w' => ∃ cs_1 : List Value, v = (.agg cs_1.toArray) ∧ RV3 w (vsub A_a A_b) cs_1) := by
  obtain ⟨r1, r3, r5, rfl, h2, h4, h6⟩ := hv_a
  obtain ⟨r7, r9, r11, rfl, h8, h10, h12⟩ := hv_b
  refine enter [(.agg #[(Fl r1), (Fl r3), (Fl r5)]), (.agg #[(Fl r7), (Fl r9), (Fl r11)]), Ud, Ud, Ud, Ud, Ud, Ud, Ud, Ud, Ud, Ud, Ud, Ud, Ud, Ud, Ud, Ud, Ud, Ud, Ud] Try.func59 rfl Try.ntmps59 rfl ?_
  refine wp_seq_k fun K13 hK13 => ?_
  refine wp_region_lit ?_
  refine seqd rfl rfl (does_box (u := (.agg #[(Fl r1), (Fl r3), (Fl r5)])) (ev rfl)) ?_; rintro _ w18 ⟨b14, rfl, hb15, hB16, E17⟩
  have g19 : w.heap.size ≤ b14 := Nat.le_trans (Below.size (Ext.refl w)) hb15
  change Blk _ _ [(Fl r1), (Fl r3), (Fl r5)] at hB16
  have X20 := Ext.gr (Ext.refl w) E17
  show wpList _ _ _ _ (fr [(.agg #[(Fl r1), (Fl r3), (Fl r5)]), (.agg #[(Fl r7), (Fl r9), (Fl r11)]), (Pt b14 0), Ud, Ud, Ud, Ud, Ud, Ud, Ud, Ud, Ud, Ud, Ud, Ud, Ud, Ud, Ud, Ud, Ud, Ud]) _
  refine seqd rfl rfl (does_box (u := (.agg #[(Fl r7), (Fl r9), (Fl r11)])) (ev rfl)) ?_; rintro _ w25 ⟨b21, rfl, hb22, hB23, E24⟩
  have n26 : b14 < b21 := Nat.lt_of_lt_of_le (Blk.lt hB16) hb22
  have g27 : w.heap.size ≤ b21 := Nat.le_trans (Below.size X20) hb22
  change Blk _ _ [(Fl r7), (Fl r9), (Fl r11)] at hB23
  have X28 := Ext.gr X20 E24
  show wpList _ _ _ _ (fr [(.agg #[(Fl r1), (Fl r3), (Fl r5)]), (.agg #[(Fl r7), (Fl r9), (Fl r11)]), (Pt b14 0), (Pt b21 0), Ud, Ud, Ud, Ud, Ud, Ud, Ud, Ud, Ud, Ud, Ud, Ud, Ud, Ud, Ud, Ud, Ud]) _
  refine seqd rfl rfl (does_alloc z31) ?_; rintro _ w33 ⟨b29, rfl, hb30, hB31, E32⟩
  have n34 : b14 < b29 := Nat.lt_of_lt_of_le (Blk.lt (hB16.ext E24)) hb30
  have n35 : b21 < b29 := Nat.lt_of_lt_of_le (Blk.lt hB23) hb30
  have g36 : w.heap.size ≤ b29 := Nat.le_trans (Below.size X28) hb30
  change Blk _ _ [(Fl 0), (Fl 0), (Fl 0)] at hB31
  have X37 := Ext.gr X28 E32
  show wpList _ _ _ _ (fr [(.agg #[(Fl r1), (Fl r3), (Fl r5)]), (.agg #[(Fl r7), (Fl r9), (Fl r11)]), (Pt b14 0), (Pt b21 0), (Pt b29 0), Ud, Ud, Ud, Ud, Ud, Ud, Ud, Ud, Ud, Ud, Ud, Ud, Ud, Ud, Ud, Ud]) _
  refine wpList_nil (hK13 _ _ ?_)
  refine wp_seq_k fun K38 hK38 => ?_
  refine wp_region_lit ?_
  refine q_is (l' := [(.agg #[(Fl r1), (Fl r3), (Fl r5)]), (.agg #[(Fl r7), (Fl r9), (Fl r11)]), (Pt b14 0), (Pt b21 0), (Pt b29 0), (Pt b14 0), Ud, Ud, Ud, Ud, Ud, Ud, Ud, Ud, Ud, Ud, Ud, Ud, Ud, Ud, Ud]) rfl rfl (does_fieldAddr (ev rfl) fa31_0) rfl ?_
  refine q_is (l' := [(.agg #[(Fl r1), (Fl r3), (Fl r5)]), (.agg #[(Fl r7), (Fl r9), (Fl r11)]), (Pt b14 0), (Pt b21 0), (Pt b29 0), (Pt b14 0), (Fl r1), Ud, Ud, Ud, Ud, Ud, Ud, Ud, Ud, Ud, Ud, Ud, Ud, Ud, Ud]) rfl rfl (does_load (u := (Fl r1)) (ev rfl) Try.isAgg25 (Cells.at (Blk.cells ((hB16.ext E24).ext E32)) 0 rfl)) rfl ?_
  refine q_is (l' := [(.agg #[(Fl r1), (Fl r3), (Fl r5)]), (.agg #[(Fl r7), (Fl r9), (Fl r11)]), (Pt b14 0), (Pt b21 0), (Pt b29 0), (Pt b14 0), (Fl r1), (Pt b21 0), Ud, Ud, Ud, Ud, Ud, Ud, Ud, Ud, Ud, Ud, Ud, Ud, Ud]) rfl rfl (does_fieldAddr (ev rfl) fa31_0) rfl ?_
  refine q_is (l' := [(.agg #[(Fl r1), (Fl r3), (Fl r5)]), (.agg #[(Fl r7), (Fl r9), (Fl r11)]), (Pt b14 0), (Pt b21 0), (Pt b29 0), (Pt b14 0), (Fl r1), (Pt b21 0), (Fl r7), Ud, Ud, Ud, Ud, Ud, Ud, Ud, Ud, Ud, Ud, Ud, Ud]) rfl rfl (does_load (u := (Fl r7)) (ev rfl) Try.isAgg25 (Cells.at (Blk.cells (hB23.ext E32)) 0 rfl)) rfl ?_
  refine seqd rfl rfl (does_float (.inr (.inl rfl)) (ev rfl) (ev rfl)) ?_; rintro _ w42 ⟨r39, rfl, h40, E41⟩
  have X43 := Ext.gr X37 E41
  show wpList _ _ _ _ (fr [(.agg #[(Fl r1), (Fl r3), (Fl r5)]), (.agg #[(Fl r7), (Fl r9), (Fl r11)]), (Pt b14 0), (Pt b21 0), (Pt b29 0), (Pt b14 0), (Fl r1), (Pt b21 0), (Fl r7), (Fl r39), Ud, Ud, Ud, Ud, Ud, Ud, Ud, Ud, Ud, Ud, Ud]) _
  refine q_is (l' := [(.agg #[(Fl r1), (Fl r3), (Fl r5)]), (.agg #[(Fl r7), (Fl r9), (Fl r11)]), (Pt b14 0), (Pt b21 0), (Pt b29 0), (Pt b14 0), (Fl r1), (Pt b21 0), (Fl r7), (Fl r39), (Pt b14 1), Ud, Ud, Ud, Ud, Ud, Ud, Ud, Ud, Ud, Ud]) rfl rfl (does_fieldAddr (ev rfl) fa31_1) rfl ?_
  refine q_is (l' := [(.agg #[(Fl r1), (Fl r3), (Fl r5)]), (.agg #[(Fl r7), (Fl r9), (Fl r11)]), (Pt b14 0), (Pt b21 0), (Pt b29 0), (Pt b14 0), (Fl r1), (Pt b21 0), (Fl r7), (Fl r39), (Pt b14 1), (Fl r3), Ud, Ud, Ud, Ud, Ud, Ud, Ud, Ud, Ud]) rfl rfl (does_load (u := (Fl r3)) (ev rfl) Try.isAgg25 (Cells.at (Blk.cells (((hB16.ext E24).ext E32).ext E41)) 1 rfl)) rfl ?_
  refine q_is (l' := [(.agg #[(Fl r1), (Fl r3), (Fl r5)]), (.agg #[(Fl r7), (Fl r9), (Fl r11)]), (Pt b14 0), (Pt b21 0), (Pt b29 0), (Pt b14 0), (Fl r1), (Pt b21 0), (Fl r7), (Fl r39), (Pt b14 1), (Fl r3), (Pt b21 1), Ud, Ud, Ud, Ud, Ud, Ud, Ud, Ud]) rfl rfl (does_fieldAddr (ev rfl) fa31_1) rfl ?_
  refine q_is (l' := [(.agg #[(Fl r1), (Fl r3), (Fl r5)]), (.agg #[(Fl r7), (Fl r9), (Fl r11)]), (Pt b14 0), (Pt b21 0), (Pt b29 0), (Pt b14 0), (Fl r1), (Pt b21 0), (Fl r7), (Fl r39), (Pt b14 1), (Fl r3), (Pt b21 1), (Fl r9), Ud, Ud, Ud, Ud, Ud, Ud, Ud]) rfl rfl (does_load (u := (Fl r9)) (ev rfl) Try.isAgg25 (Cells.at (Blk.cells ((hB23.ext E32).ext E41)) 1 rfl)) rfl ?_
  refine seqd rfl rfl (does_float (.inr (.inl rfl)) (ev rfl) (ev rfl)) ?_; rintro _ w47 ⟨r44, rfl, h45, E46⟩
  have X48 := Ext.gr X43 E46
  show wpList _ _ _ _ (fr [(.agg #[(Fl r1), (Fl r3), (Fl r5)]), (.agg #[(Fl r7), (Fl r9), (Fl r11)]), (Pt b14 0), (Pt b21 0), (Pt b29 0), (Pt b14 0), (Fl r1), (Pt b21 0), (Fl r7), (Fl r39), (Pt b14 1), (Fl r3), (Pt b21 1), (Fl r9), (Fl r44), Ud, Ud, Ud, Ud, Ud, Ud]) _
  refine q_is (l' := [(.agg #[(Fl r1), (Fl r3), (Fl r5)]), (.agg #[(Fl r7), (Fl r9), (Fl r11)]), (Pt b14 0), (Pt b21 0), (Pt b29 0), (Pt b14 0), (Fl r1), (Pt b21 0), (Fl r7), (Fl r39), (Pt b14 1), (Fl r3), (Pt b21 1), (Fl r9), (Fl r44), (Pt b14 2), Ud, Ud, Ud, Ud, Ud]) rfl rfl (does_fieldAddr (ev rfl) fa31_2) rfl ?_
  refine q_is (l' := [(.agg #[(Fl r1), (Fl r3), (Fl r5)]), (.agg #[(Fl r7), (Fl r9), (Fl r11)]), (Pt b14 0), (Pt b21 0), (Pt b29 0), (Pt b14 0), (Fl r1), (Pt b21 0), (Fl r7), (Fl r39), (Pt b14 1), (Fl r3), (Pt b21 1), (Fl r9), (Fl r44), (Pt b14 2), (Fl r5), Ud, Ud, Ud, Ud]) rfl rfl (does_load (u := (Fl r5)) (ev rfl) Try.isAgg25 (Cells.at (Blk.cells ((((hB16.ext E24).ext E32).ext E41).ext E46)) 2 rfl)) rfl ?_
  refine q_is (l' := [(.agg #[(Fl r1), (Fl r3), (Fl r5)]), (.agg #[(Fl r7), (Fl r9), (Fl r11)]), (Pt b14 0), (Pt b21 0), (Pt b29 0), (Pt b14 0), (Fl r1), (Pt b21 0), (Fl r7), (Fl r39), (Pt b14 1), (Fl r3), (Pt b21 1), (Fl r9), (Fl r44), (Pt b14 2), (Fl r5), (Pt b21 2), Ud, Ud, Ud]) rfl rfl (does_fieldAddr (ev rfl) fa31_2) rfl ?_
  refine q_is (l' := [(.agg #[(Fl r1), (Fl r3), (Fl r5)]), (.agg #[(Fl r7), (Fl r9), (Fl r11)]), (Pt b14 0), (Pt b21 0), (Pt b29 0), (Pt b14 0), (Fl r1), (Pt b21 0), (Fl r7), (Fl r39), (Pt b14 1), (Fl r3), (Pt b21 1), (Fl r9), (Fl r44), (Pt b14 2), (Fl r5), (Pt b21 2), (Fl r11), Ud, Ud]) rfl rfl (does_load (u := (Fl r11)) (ev rfl) Try.isAgg25 (Cells.at (Blk.cells (((hB23.ext E32).ext E41).ext E46)) 2 rfl)) rfl ?_
  refine seqd rfl rfl (does_float (.inr (.inl rfl)) (ev rfl) (ev rfl)) ?_; rintro _ w52 ⟨r49, rfl, h50, E51⟩
  have X53 := Ext.gr X48 E51
  show wpList _ _ _ _ (fr [(.agg #[(Fl r1), (Fl r3), (Fl r5)]), (.agg #[(Fl r7), (Fl r9), (Fl r11)]), (Pt b14 0), (Pt b21 0), (Pt b29 0), (Pt b14 0), (Fl r1), (Pt b21 0), (Fl r7), (Fl r39), (Pt b14 1), (Fl r3), (Pt b21 1), (Fl r9), (Fl r44), (Pt b14 2), (Fl r5), (Pt b21 2), (Fl r11), (Fl r49), Ud]) _
  refine q_is (l' := [(.agg #[(Fl r1), (Fl r3), (Fl r5)]), (.agg #[(Fl r7), (Fl r9), (Fl r11)]), (Pt b14 0), (Pt b21 0), (Pt b29 0), (Pt b14 0), (Fl r1), (Pt b21 0), (Fl r7), (Fl r39), (Pt b14 1), (Fl r3), (Pt b21 1), (Fl r9), (Fl r44), (Pt b14 2), (Fl r5), (Pt b21 2), (Fl r11), (Fl r49), (.agg #[(Fl r39), (Fl r44), (Fl r49)])]) rfl rfl (does_build (parts' := [(0, (Fl r39)), (1, (Fl r44)), (2, (Fl r49))]) (cells := #[(Fl r39), (Fl r44), (Fl r49)]) (evp rfl) (by kernel_rfl)) rfl ?_
  refine seqn rfl rfl (does_store (n := 3) (cs := [(Fl 0), (Fl 0), (Fl 0)]) (u := (.agg #[(Fl r39), (Fl r44), (Fl r49)])) (ev rfl) (ev rfl) Try.sizeOf31 rfl (((hB31.ext E41).ext E46).ext E51) (Nat.le_of_ble_eq_true rfl) rfl) ?_; rintro _ w56 ⟨rfl, W54, hB55⟩
  change Blk _ _ [(Fl r39), (Fl r44), (Fl r49)] at hB55
  have X57 := Below.wr X53 W54 g36
  refine wpList_nil (hK38 _ _ ?_)
  refine wp_ret ?_
  refine ret_val (v := (.agg #[(Fl r39), (Fl r44), (Fl r49)])) (res_C rfl (slot rfl) (run_loadAgg (cs := [(Fl r39), (Fl r44), (Fl r49)]) Try.isAgg31 Try.sizeOf31 (Blk.cells hB55) rfl)) X57 ?_
  have x58 : cf .f32 r39 = (vsub A_a A_b).x := by first | rfl | (simp only [vsub, h2, h4, h6, h8, h10, h12, h40, h45, h50]; done) | (simp [vsub, h2, h4, h6, h8, h10, h12, h40, h45, h50]; done)
  have x59 : cf .f32 r44 = (vsub A_a A_b).y := by first | rfl | (simp only [vsub, h2, h4, h6, h8, h10, h12, h40, h45, h50]; done) | (simp [vsub, h2, h4, h6, h8, h10, h12, h40, h45, h50]; done)
  have x60 : cf .f32 r49 = (vsub A_a A_b).z := by first | rfl | (simp only [vsub, h2, h4, h6, h8, h10, h12, h40, h45, h50]; done) | (simp [vsub, h2, h4, h6, h8, h10, h12, h40, h45, h50]; done)
  exact ⟨[(Fl r39), (Fl r44), (Fl r49)], rfl, ⟨r39, r44, r49, rfl, x58, x59, x60⟩⟩

/- impl.toldBox -/
theorem c_impl_toldBox (b : List Value) (A_b : Bx) (w : World) (hv_b : RBx w A_b b) : Gives Try.prog 80 #[(.agg b.toArray)] w (fun v w' => ∃ cs_1 : List Value, v = (.tuple #[(.agg cs_1.toArray), (Bo (isBox A_b))]) ∧ RBx w (gvB (isBox A_b) A_b) cs_1) := by
  obtain ⟨r1, r3, r5, r7, r9, r11, rfl, h2, h4, h6, h8, h10, h12⟩ := hv_b
  refine enter [(.agg #[(Fl r1), (Fl r3), (Fl r5), (Fl r7), (Fl r9), (Fl r11)]), Ud, Ud, Ud, Ud, Ud, Ud, Ud, Ud] Try.func80 rfl Try.ntmps80 rfl ?_
  refine wp_seq_k fun K13 hK13 => ?_
  refine wp_region_lit ?_
  refine seqd rfl rfl (does_box (u := (.agg #[(Fl r1), (Fl r3), (Fl r5), (Fl r7), (Fl r9), (Fl r11)])) (ev rfl)) ?_; rintro _ w18 ⟨b14, rfl, hb15, hB16, E17⟩
  have g19 : w.heap.size ≤ b14 := Nat.le_trans (Below.size (Ext.refl w)) hb15
  change Blk _ _ [(Fl r1), (Fl r3), (Fl r5), (Fl r7), (Fl r9), (Fl r11)] at hB16
  have X20 := Ext.gr (Ext.refl w) E17
  show wpList _ _ _ _ (fr [(.agg #[(Fl r1), (Fl r3), (Fl r5), (Fl r7), (Fl r9), (Fl r11)]), (Pt b14 0), Ud, Ud, Ud, Ud, Ud, Ud, Ud]) _
  refine seqd rfl rfl (does_alloc z33) ?_; rintro _ w25 ⟨b21, rfl, hb22, hB23, E24⟩
  have n26 : b14 < b21 := Nat.lt_of_lt_of_le (Blk.lt hB16) hb22
  have g27 : w.heap.size ≤ b21 := Nat.le_trans (Below.size X20) hb22
  change Blk _ _ [(Fl 0), (Fl 0), (Fl 0), (Fl 0), (Fl 0), (Fl 0)] at hB23
  have X28 := Ext.gr X20 E24
  show wpList _ _ _ _ (fr [(.agg #[(Fl r1), (Fl r3), (Fl r5), (Fl r7), (Fl r9), (Fl r11)]), (Pt b14 0), (Pt b21 0), Ud, Ud, Ud, Ud, Ud, Ud]) _
  refine q_is (l' := [(.agg #[(Fl r1), (Fl r3), (Fl r5), (Fl r7), (Fl r9), (Fl r11)]), (Pt b14 0), (Pt b21 0), (Bo false), Ud, Ud, Ud, Ud, Ud]) rfl rfl (does_assign (u := (Bo false)) (ev rfl)) rfl ?_
  refine wpList_nil (hK13 _ _ ?_)
  refine wp_seq_k fun K29 hK29 => ?_
  refine wp_seq_k fun K30 hK30 => ?_
  refine wp_region_lit ?_
  refine q_is (l' := [(.agg #[(Fl r1), (Fl r3), (Fl r5), (Fl r7), (Fl r9), (Fl r11)]), (Pt b14 0), (Pt b21 0), (Bo false), (.agg #[(Fl r1), (Fl r3), (Fl r5), (Fl r7), (Fl r9), (Fl r11)]), Ud, Ud, Ud, Ud]) rfl rfl (does_loadAgg (cs := [(Fl r1), (Fl r3), (Fl r5), (Fl r7), (Fl r9), (Fl r11)]) (ev rfl) Try.isAgg33 Try.sizeOf33 (Blk.cells (hB16.ext E24)) rfl) rfl ?_
  refine seqd rfl rfl (does_call (args := #[(.agg #[(Fl r1), (Fl r3), (Fl r5), (Fl r7), (Fl r9), (Fl r11)])]) cal19 (evs rfl) (c_impl_ValidBox [(Fl r1), (Fl r3), (Fl r5), (Fl r7), (Fl r9), (Fl r11)] A_b _ ⟨r1, r3, r5, r7, r9, r11, rfl, h2, h4, h6, h8, h10, h12⟩)) ?_; rintro _ w32 ⟨E31, rfl⟩
  have X33 := Ext.gr X28 E31
  show wpList _ _ _ _ (fr [(.agg #[(Fl r1), (Fl r3), (Fl r5), (Fl r7), (Fl r9), (Fl r11)]), (Pt b14 0), (Pt b21 0), (Bo false), (.agg #[(Fl r1), (Fl r3), (Fl r5), (Fl r7), (Fl r9), (Fl r11)]), (Bo (isBox A_b)), Ud, Ud, Ud]) _
  refine q_is (l' := [(.agg #[(Fl r1), (Fl r3), (Fl r5), (Fl r7), (Fl r9), (Fl r11)]), (Pt b14 0), (Pt b21 0), (Bo false), (.agg #[(Fl r1), (Fl r3), (Fl r5), (Fl r7), (Fl r9), (Fl r11)]), (Bo (isBox A_b)), (Bo (!(isBox A_b))), Ud, Ud]) rfl rfl (does_not (ev rfl)) rfl ?_
  refine wpList_nil (hK30 _ _ ?_)
  refine wp_cond_split (t := !(isBox A_b)) (ev rfl) (fun c34 => ?_) (fun c34 => ?_)
  · rw [Bool.not_eq_true'] at c34
    have c34' := c34
    refine wp_seq_k fun K35 hK35 => ?_
    refine wp_region_lit ?_
    refine q_is (l' := [(.agg #[(Fl r1), (Fl r3), (Fl r5), (Fl r7), (Fl r9), (Fl r11)]), (Pt b14 0), (Pt b21 0), (Bo false), (.agg #[(Fl r1), (Fl r3), (Fl r5), (Fl r7), (Fl r9), (Fl r11)]), (Bo (isBox A_b)), (Bo (!(isBox A_b))), (.agg #[(Fl 0), (Fl 0), (Fl 0), (Fl 0), (Fl 0), (Fl 0)]), Ud]) rfl rfl (does_build (parts' := []) (cells := #[(Fl 0), (Fl 0), (Fl 0), (Fl 0), (Fl 0), (Fl 0)]) (evp rfl) (by kernel_rfl)) rfl ?_
    refine seqn rfl rfl (does_store (n := 6) (cs := [(Fl 0), (Fl 0), (Fl 0), (Fl 0), (Fl 0), (Fl 0)]) (u := (.agg #[(Fl 0), (Fl 0), (Fl 0), (Fl 0), (Fl 0), (Fl 0)])) (ev rfl) (ev rfl) Try.sizeOf33 rfl (hB23.ext E31) (Nat.le_of_ble_eq_true rfl) rfl) ?_; rintro _ w38 ⟨rfl, W36, hB37⟩
    change Blk _ _ [(Fl 0), (Fl 0), (Fl 0), (Fl 0), (Fl 0), (Fl 0)] at hB37
    have X39 := Below.wr X33 W36 g27
    refine q_is (l' := [(.agg #[(Fl r1), (Fl r3), (Fl r5), (Fl r7), (Fl r9), (Fl r11)]), (Pt b14 0), (Pt b21 0), (Bo false), (.agg #[(Fl r1), (Fl r3), (Fl r5), (Fl r7), (Fl r9), (Fl r11)]), (Bo (isBox A_b)), (Bo (!(isBox A_b))), (.agg #[(Fl 0), (Fl 0), (Fl 0), (Fl 0), (Fl 0), (Fl 0)]), Ud]) rfl rfl (does_assign (u := (Bo false)) (ev rfl)) rfl ?_
    refine wpList_nil (hK35 _ _ ?_)
    refine wp_ret ?_
    dsimp only [Exit.then, Exit.inBlock]
    refine ret_val (v := (.tuple #[(.agg #[(Fl 0), (Fl 0), (Fl 0), (Fl 0), (Fl 0), (Fl 0)]), (Bo false)])) (res_CT rfl (slot rfl) (run_loadAgg (cs := [(Fl 0), (Fl 0), (Fl 0), (Fl 0), (Fl 0), (Fl 0)]) Try.isAgg33 Try.sizeOf33 (Blk.cells hB37) rfl) (slot rfl)) X39 ?_
    try simp only [h2, h4, h6, h8, h10, h12] at c34
    have x40 : (isBox A_b) = false := by first | rfl | (simp only [gvB_t, gvB_f, zB, zV, Bool.true_and, Bool.false_and, Bool.and_true, Bool.and_false, Bool.not_eq_true', Bool.not_eq_false', h2, h4, h6, h8, h10, h12, c34]; done) | (simp [gvB_t, gvB_f, zB, zV, Bool.true_and, Bool.false_and, Bool.and_true, Bool.and_false, Bool.not_eq_true', Bool.not_eq_false', h2, h4, h6, h8, h10, h12, c34]; done) | (revert c34; simp +contextual [gvB_t, gvB_f, zB, zV, Bool.true_and, Bool.false_and, Bool.and_true, Bool.and_false, Bool.not_eq_true', Bool.not_eq_false', h2, h4, h6, h8, h10, h12]; done) | (rcases c34' with hh | hh <;> simp only [hh, gvB_t, gvB_f, zB, zV, Bool.true_and, Bool.false_and, Bool.and_true, Bool.and_false, Bool.not_eq_true', Bool.not_eq_false', h2, h4, h6, h8, h10, h12, c34]; done)
    have x41 : cf .f32 0 = (gvB (isBox A_b) A_b).lo.x := by first | rfl | (simp only [gvB_t, gvB_f, zB, zV, Bool.true_and, Bool.false_and, Bool.and_true, Bool.and_false, Bool.not_eq_true', Bool.not_eq_false', h2, h4, h6, h8, h10, h12, c34]; done) | (simp [gvB_t, gvB_f, zB, zV, Bool.true_and, Bool.false_and, Bool.and_true, Bool.and_false, Bool.not_eq_true', Bool.not_eq_false', h2, h4, h6, h8, h10, h12, c34]; done) | (revert c34; simp +contextual [gvB_t, gvB_f, zB, zV, Bool.true_and, Bool.false_and, Bool.and_true, Bool.and_false, Bool.not_eq_true', Bool.not_eq_false', h2, h4, h6, h8, h10, h12]; done) | (rcases c34' with hh | hh <;> simp only [hh, gvB_t, gvB_f, zB, zV, Bool.true_and, Bool.false_and, Bool.and_true, Bool.and_false, Bool.not_eq_true', Bool.not_eq_false', h2, h4, h6, h8, h10, h12, c34]; done)
    have x42 : cf .f32 0 = (gvB (isBox A_b) A_b).lo.y := by first | rfl | (simp only [gvB_t, gvB_f, zB, zV, Bool.true_and, Bool.false_and, Bool.and_true, Bool.and_false, Bool.not_eq_true', Bool.not_eq_false', h2, h4, h6, h8, h10, h12, c34]; done) | (simp [gvB_t, gvB_f, zB, zV, Bool.true_and, Bool.false_and, Bool.and_true, Bool.and_false, Bool.not_eq_true', Bool.not_eq_false', h2, h4, h6, h8, h10, h12, c34]; done) | (revert c34; simp +contextual [gvB_t, gvB_f, zB, zV, Bool.true_and, Bool.false_and, Bool.and_true, Bool.and_false, Bool.not_eq_true', Bool.not_eq_false', h2, h4, h6, h8, h10, h12]; done) | (rcases c34' with hh | hh <;> simp only [hh, gvB_t, gvB_f, zB, zV, Bool.true_and, Bool.false_and, Bool.and_true, Bool.and_false, Bool.not_eq_true', Bool.not_eq_false', h2, h4, h6, h8, h10, h12, c34]; done)
    have x43 : cf .f32 0 = (gvB (isBox A_b) A_b).lo.z := by first | rfl | (simp only [gvB_t, gvB_f, zB, zV, Bool.true_and, Bool.false_and, Bool.and_true, Bool.and_false, Bool.not_eq_true', Bool.not_eq_false', h2, h4, h6, h8, h10, h12, c34]; done) | (simp [gvB_t, gvB_f, zB, zV, Bool.true_and, Bool.false_and, Bool.and_true, Bool.and_false, Bool.not_eq_true', Bool.not_eq_false', h2, h4, h6, h8, h10, h12, c34]; done) | (revert c34; simp +contextual [gvB_t, gvB_f, zB, zV, Bool.true_and, Bool.false_and, Bool.and_true, Bool.and_false, Bool.not_eq_true', Bool.not_eq_false', h2, h4, h6, h8, h10, h12]; done) | (rcases c34' with hh | hh <;> simp only [hh, gvB_t, gvB_f, zB, zV, Bool.true_and, Bool.false_and, Bool.and_true, Bool.and_false, Bool.not_eq_true', Bool.not_eq_false', h2, h4, h6, h8, h10, h12, c34]; done)
    have x44 : cf .f32 0 = (gvB (isBox A_b) A_b).hi.x := by first | rfl | (simp only [gvB_t, gvB_f, zB, zV, Bool.true_and, Bool.false_and, Bool.and_true, Bool.and_false, Bool.not_eq_true', Bool.not_eq_false', h2, h4, h6, h8, h10, h12, c34]; done) | (simp [gvB_t, gvB_f, zB, zV, Bool.true_and, Bool.false_and, Bool.and_true, Bool.and_false, Bool.not_eq_true', Bool.not_eq_false', h2, h4, h6, h8, h10, h12, c34]; done) | (revert c34; simp +contextual [gvB_t, gvB_f, zB, zV, Bool.true_and, Bool.false_and, Bool.and_true, Bool.and_false, Bool.not_eq_true', Bool.not_eq_false', h2, h4, h6, h8, h10, h12]; done) | (rcases c34' with hh | hh <;> simp only [hh, gvB_t, gvB_f, zB, zV, Bool.true_and, Bool.false_and, Bool.and_true, Bool.and_false, Bool.not_eq_true', Bool.not_eq_false', h2, h4, h6, h8, h10, h12, c34]; done)
    have x45 : cf .f32 0 = (gvB (isBox A_b) A_b).hi.y := by first | rfl | (simp only [gvB_t, gvB_f, zB, zV, Bool.true_and, Bool.false_and, Bool.and_true, Bool.and_false, Bool.not_eq_true', Bool.not_eq_false', h2, h4, h6, h8, h10, h12, c34]; done) | (simp [gvB_t, gvB_f, zB, zV, Bool.true_and, Bool.false_and, Bool.and_true, Bool.and_false, Bool.not_eq_true', Bool.not_eq_false', h2, h4, h6, h8, h10, h12, c34]; done) | (revert c34; simp +contextual [gvB_t, gvB_f, zB, zV, Bool.true_and, Bool.false_and, Bool.and_true, Bool.and_false, Bool.not_eq_true', Bool.not_eq_false', h2, h4, h6, h8, h10, h12]; done) | (rcases c34' with hh | hh <;> simp only [hh, gvB_t, gvB_f, zB, zV, Bool.true_and, Bool.false_and, Bool.and_true, Bool.and_false, Bool.not_eq_true', Bool.not_eq_false', h2, h4, h6, h8, h10, h12, c34]; done)
    have x46 : cf .f32 0 = (gvB (isBox A_b) A_b).hi.z := by first | rfl | (simp only [gvB_t, gvB_f, zB, zV, Bool.true_and, Bool.false_and, Bool.and_true, Bool.and_false, Bool.not_eq_true', Bool.not_eq_false', h2, h4, h6, h8, h10, h12, c34]; done) | (simp [gvB_t, gvB_f, zB, zV, Bool.true_and, Bool.false_and, Bool.and_true, Bool.and_false, Bool.not_eq_true', Bool.not_eq_false', h2, h4, h6, h8, h10, h12, c34]; done) | (revert c34; simp +contextual [gvB_t, gvB_f, zB, zV, Bool.true_and, Bool.false_and, Bool.and_true, Bool.and_false, Bool.not_eq_true', Bool.not_eq_false', h2, h4, h6, h8, h10, h12]; done) | (rcases c34' with hh | hh <;> simp only [hh, gvB_t, gvB_f, zB, zV, Bool.true_and, Bool.false_and, Bool.and_true, Bool.and_false, Bool.not_eq_true', Bool.not_eq_false', h2, h4, h6, h8, h10, h12, c34]; done)
    exact ⟨[(Fl 0), (Fl 0), (Fl 0), (Fl 0), (Fl 0), (Fl 0)], (by first | rfl | rw [x40]), ⟨0, 0, 0, 0, 0, 0, rfl, x41, x42, x43, x44, x45, x46⟩⟩
  rw [Bool.not_eq_false'] at c34
  have c34' := c34
  refine wp_skip (hK29 _ _ ?_)
  refine wp_seq_k fun K47 hK47 => ?_
  refine wp_region_lit ?_
  refine q_is (l' := [(.agg #[(Fl r1), (Fl r3), (Fl r5), (Fl r7), (Fl r9), (Fl r11)]), (Pt b14 0), (Pt b21 0), (Bo false), (.agg #[(Fl r1), (Fl r3), (Fl r5), (Fl r7), (Fl r9), (Fl r11)]), (Bo (isBox A_b)), (Bo (!(isBox A_b))), Ud, (.agg #[(Fl r1), (Fl r3), (Fl r5), (Fl r7), (Fl r9), (Fl r11)])]) rfl rfl (does_loadAgg (cs := [(Fl r1), (Fl r3), (Fl r5), (Fl r7), (Fl r9), (Fl r11)]) (ev rfl) Try.isAgg33 Try.sizeOf33 (Blk.cells ((hB16.ext E24).ext E31)) rfl) rfl ?_
  refine seqn rfl rfl (does_store (n := 6) (cs := [(Fl 0), (Fl 0), (Fl 0), (Fl 0), (Fl 0), (Fl 0)]) (u := (.agg #[(Fl r1), (Fl r3), (Fl r5), (Fl r7), (Fl r9), (Fl r11)])) (ev rfl) (ev rfl) Try.sizeOf33 rfl (hB23.ext E31) (Nat.le_of_ble_eq_true rfl) rfl) ?_; rintro _ w50 ⟨rfl, W48, hB49⟩
  change Blk _ _ [(Fl r1), (Fl r3), (Fl r5), (Fl r7), (Fl r9), (Fl r11)] at hB49
  have X51 := Below.wr X33 W48 g27
  refine q_is (l' := [(.agg #[(Fl r1), (Fl r3), (Fl r5), (Fl r7), (Fl r9), (Fl r11)]), (Pt b14 0), (Pt b21 0), (Bo true), (.agg #[(Fl r1), (Fl r3), (Fl r5), (Fl r7), (Fl r9), (Fl r11)]), (Bo (isBox A_b)), (Bo (!(isBox A_b))), Ud, (.agg #[(Fl r1), (Fl r3), (Fl r5), (Fl r7), (Fl r9), (Fl r11)])]) rfl rfl (does_assign (u := (Bo true)) (ev rfl)) rfl ?_
  refine wpList_nil (hK47 _ _ ?_)
  refine wp_ret ?_
  refine ret_val (v := (.tuple #[(.agg #[(Fl r1), (Fl r3), (Fl r5), (Fl r7), (Fl r9), (Fl r11)]), (Bo true)])) (res_CT rfl (slot rfl) (run_loadAgg (cs := [(Fl r1), (Fl r3), (Fl r5), (Fl r7), (Fl r9), (Fl r11)]) Try.isAgg33 Try.sizeOf33 (Blk.cells hB49) rfl) (slot rfl)) X51 ?_
  try simp only [h2, h4, h6, h8, h10, h12] at c34
  have x52 : (isBox A_b) = true := by first | rfl | (simp only [gvB_t, gvB_f, zB, zV, Bool.true_and, Bool.false_and, Bool.and_true, Bool.and_false, Bool.not_eq_true', Bool.not_eq_false', h2, h4, h6, h8, h10, h12, c34]; done) | (simp [gvB_t, gvB_f, zB, zV, Bool.true_and, Bool.false_and, Bool.and_true, Bool.and_false, Bool.not_eq_true', Bool.not_eq_false', h2, h4, h6, h8, h10, h12, c34]; done) | (revert c34; simp +contextual [gvB_t, gvB_f, zB, zV, Bool.true_and, Bool.false_and, Bool.and_true, Bool.and_false, Bool.not_eq_true', Bool.not_eq_false', h2, h4, h6, h8, h10, h12]; done) | (rcases c34' with hh | hh <;> simp only [hh, gvB_t, gvB_f, zB, zV, Bool.true_and, Bool.false_and, Bool.and_true, Bool.and_false, Bool.not_eq_true', Bool.not_eq_false', h2, h4, h6, h8, h10, h12, c34]; done)
  have x53 : cf .f32 r1 = (gvB (isBox A_b) A_b).lo.x := by first | rfl | (simp only [gvB_t, gvB_f, zB, zV, Bool.true_and, Bool.false_and, Bool.and_true, Bool.and_false, Bool.not_eq_true', Bool.not_eq_false', h2, h4, h6, h8, h10, h12, c34]; done) | (simp [gvB_t, gvB_f, zB, zV, Bool.true_and, Bool.false_and, Bool.and_true, Bool.and_false, Bool.not_eq_true', Bool.not_eq_false', h2, h4, h6, h8, h10, h12, c34]; done) | (revert c34; simp +contextual [gvB_t, gvB_f, zB, zV, Bool.true_and, Bool.false_and, Bool.and_true, Bool.and_false, Bool.not_eq_true', Bool.not_eq_false', h2, h4, h6, h8, h10, h12]; done) | (rcases c34' with hh | hh <;> simp only [hh, gvB_t, gvB_f, zB, zV, Bool.true_and, Bool.false_and, Bool.and_true, Bool.and_false, Bool.not_eq_true', Bool.not_eq_false', h2, h4, h6, h8, h10, h12, c34]; done)
  have x54 : cf .f32 r3 = (gvB (isBox A_b) A_b).lo.y := by first | rfl | (simp only [gvB_t, gvB_f, zB, zV, Bool.true_and, Bool.false_and, Bool.and_true, Bool.and_false, Bool.not_eq_true', Bool.not_eq_false', h2, h4, h6, h8, h10, h12, c34]; done) | (simp [gvB_t, gvB_f, zB, zV, Bool.true_and, Bool.false_and, Bool.and_true, Bool.and_false, Bool.not_eq_true', Bool.not_eq_false', h2, h4, h6, h8, h10, h12, c34]; done) | (revert c34; simp +contextual [gvB_t, gvB_f, zB, zV, Bool.true_and, Bool.false_and, Bool.and_true, Bool.and_false, Bool.not_eq_true', Bool.not_eq_false', h2, h4, h6, h8, h10, h12]; done) | (rcases c34' with hh | hh <;> simp only [hh, gvB_t, gvB_f, zB, zV, Bool.true_and, Bool.false_and, Bool.and_true, Bool.and_false, Bool.not_eq_true', Bool.not_eq_false', h2, h4, h6, h8, h10, h12, c34]; done)
  have x55 : cf .f32 r5 = (gvB (isBox A_b) A_b).lo.z := by first | rfl | (simp only [gvB_t, gvB_f, zB, zV, Bool.true_and, Bool.false_and, Bool.and_true, Bool.and_false, Bool.not_eq_true', Bool.not_eq_false', h2, h4, h6, h8, h10, h12, c34]; done) | (simp [gvB_t, gvB_f, zB, zV, Bool.true_and, Bool.false_and, Bool.and_true, Bool.and_false, Bool.not_eq_true', Bool.not_eq_false', h2, h4, h6, h8, h10, h12, c34]; done) | (revert c34; simp +contextual [gvB_t, gvB_f, zB, zV, Bool.true_and, Bool.false_and, Bool.and_true, Bool.and_false, Bool.not_eq_true', Bool.not_eq_false', h2, h4, h6, h8, h10, h12]; done) | (rcases c34' with hh | hh <;> simp only [hh, gvB_t, gvB_f, zB, zV, Bool.true_and, Bool.false_and, Bool.and_true, Bool.and_false, Bool.not_eq_true', Bool.not_eq_false', h2, h4, h6, h8, h10, h12, c34]; done)
  have x56 : cf .f32 r7 = (gvB (isBox A_b) A_b).hi.x := by first | rfl | (simp only [gvB_t, gvB_f, zB, zV, Bool.true_and, Bool.false_and, Bool.and_true, Bool.and_false, Bool.not_eq_true', Bool.not_eq_false', h2, h4, h6, h8, h10, h12, c34]; done) | (simp [gvB_t, gvB_f, zB, zV, Bool.true_and, Bool.false_and, Bool.and_true, Bool.and_false, Bool.not_eq_true', Bool.not_eq_false', h2, h4, h6, h8, h10, h12, c34]; done) | (revert c34; simp +contextual [gvB_t, gvB_f, zB, zV, Bool.true_and, Bool.false_and, Bool.and_true, Bool.and_false, Bool.not_eq_true', Bool.not_eq_false', h2, h4, h6, h8, h10, h12]; done) | (rcases c34' with hh | hh <;> simp only [hh, gvB_t, gvB_f, zB, zV, Bool.true_and, Bool.false_and, Bool.and_true, Bool.and_false, Bool.not_eq_true', Bool.not_eq_false', h2, h4, h6, h8, h10, h12, c34]; done)
  have x57 : cf .f32 r9 = (gvB (isBox A_b) A_b).hi.y := by first | rfl | (simp only [gvB_t, gvB_f, zB, zV, Bool.true_and, Bool.false_and, Bool.and_true, Bool.and_false, Bool.not_eq_true', Bool.not_eq_false', h2, h4, h6, h8, h10, h12, c34]; done) | (simp [gvB_t, gvB_f, zB, zV, Bool.true_and, Bool.false_and, Bool.and_true, Bool.and_false, Bool.not_eq_true', Bool.not_eq_false', h2, h4, h6, h8, h10, h12, c34]; done) | (revert c34; simp +contextual [gvB_t, gvB_f, zB, zV, Bool.true_and, Bool.false_and, Bool.and_true, Bool.and_false, Bool.not_eq_true', Bool.not_eq_false', h2, h4, h6, h8, h10, h12]; done) | (rcases c34' with hh | hh <;> simp only [hh, gvB_t, gvB_f, zB, zV, Bool.true_and, Bool.false_and, Bool.and_true, Bool.and_false, Bool.not_eq_true', Bool.not_eq_false', h2, h4, h6, h8, h10, h12, c34]; done)
  have x58 : cf .f32 r11 = (gvB (isBox A_b) A_b).hi.z := by first | rfl | (simp only [gvB_t, gvB_f, zB, zV, Bool.true_and, Bool.false_and, Bool.and_true, Bool.and_false, Bool.not_eq_true', Bool.not_eq_false', h2, h4, h6, h8, h10, h12, c34]; done) | (simp [gvB_t, gvB_f, zB, zV, Bool.true_and, Bool.false_and, Bool.and_true, Bool.and_false, Bool.not_eq_true', Bool.not_eq_false', h2, h4, h6, h8, h10, h12, c34]; done) | (revert c34; simp +contextual [gvB_t, gvB_f, zB, zV, Bool.true_and, Bool.false_and, Bool.and_true, Bool.and_false, Bool.not_eq_true', Bool.not_eq_false', h2, h4, h6, h8, h10, h12]; done) | (rcases c34' with hh | hh <;> simp only [hh, gvB_t, gvB_f, zB, zV, Bool.true_and, Bool.false_and, Bool.and_true, Bool.and_false, Bool.not_eq_true', Bool.not_eq_false', h2, h4, h6, h8, h10, h12, c34]; done)
  exact ⟨[(Fl r1), (Fl r3), (Fl r5), (Fl r7), (Fl r9), (Fl r11)], (by first | rfl | rw [x52]), ⟨r1, r3, r5, r7, r9, r11, rfl, x53, x54, x55, x56, x57, x58⟩⟩

/- impl.AddVectors -/
theorem c_impl_AddVectors (a : List Value) (A_a : V3) (b : List Value) (A_b : V3) (w : World) (hv_a : RV3 w A_a a) (hv_b : RV3 w A_b b) : Gives Try.prog 81 #[(.agg a.toArray), (.agg b.toArray)] w (fun v w' => ∃ cs_1 : List Value, v = (.agg cs_1.toArray) ∧ RV3 w (vadd A_a A_b) cs_1) := by
  obtain ⟨r1, r3, r5, rfl, h2, h4, h6⟩ := hv_a
  obtain ⟨r7, r9, r11, rfl, h8, h10, h12⟩ := hv_b
  refine enter [(.agg #[(Fl r1), (Fl r3), (Fl r5)]), (.agg #[(Fl r7), (Fl r9), (Fl r11)]), Ud, Ud, Ud, Ud, Ud, Ud, Ud, Ud, Ud, Ud, Ud, Ud, Ud, Ud, Ud, Ud, Ud, Ud, Ud] Try.func81 rfl Try.ntmps81 rfl ?_
  refine wp_seq_k fun K13 hK13 => ?_
  refine wp_region_lit ?_
  refine seqd rfl rfl (does_box (u := (.agg #[(Fl r1), (Fl r3), (Fl r5)])) (ev rfl)) ?_; rintro _ w18 ⟨b14, rfl, hb15, hB16, E17⟩
  have g19 : w.heap.size ≤ b14 := Nat.le_trans (Below.size (Ext.refl w)) hb15
  change Blk _ _ [(Fl r1), (Fl r3), (Fl r5)] at hB16
  have X20 := Ext.gr (Ext.refl w) E17
  show wpList _ _ _ _ (fr [(.agg #[(Fl r1), (Fl r3), (Fl r5)]), (.agg #[(Fl r7), (Fl r9), (Fl r11)]), (Pt b14 0), Ud, Ud, Ud, Ud, Ud, Ud, Ud, Ud, Ud, Ud, Ud, Ud, Ud, Ud, Ud, Ud, Ud, Ud]) _
  refine seqd rfl rfl (does_box (u := (.agg #[(Fl r7), (Fl r9), (Fl r11)])) (ev rfl)) ?_; rintro _ w25 ⟨b21, rfl, hb22, hB23, E24⟩
  have n26 : b14 < b21 := Nat.lt_of_lt_of_le (Blk.lt hB16) hb22
  have g27 : w.heap.size ≤ b21 := Nat.le_trans (Below.size X20) hb22
  change Blk _ _ [(Fl r7), (Fl r9), (Fl r11)] at hB23
  have X28 := Ext.gr X20 E24
  show wpList _ _ _ _ (fr [(.agg #[(Fl r1), (Fl r3), (Fl r5)]), (.agg #[(Fl r7), (Fl r9), (Fl r11)]), (Pt b14 0), (Pt b21 0), Ud, Ud, Ud, Ud, Ud, Ud, Ud, Ud, Ud, Ud, Ud, Ud, Ud, Ud, Ud, Ud, Ud]) _
  refine seqd rfl rfl (does_alloc z31) ?_; rintro _ w33 ⟨b29, rfl, hb30, hB31, E32⟩
  have n34 : b14 < b29 := Nat.lt_of_lt_of_le (Blk.lt (hB16.ext E24)) hb30
  have n35 : b21 < b29 := Nat.lt_of_lt_of_le (Blk.lt hB23) hb30
  have g36 : w.heap.size ≤ b29 := Nat.le_trans (Below.size X28) hb30
  change Blk _ _ [(Fl 0), (Fl 0), (Fl 0)] at hB31
  have X37 := Ext.gr X28 E32
  show wpList _ _ _ _ (fr [(.agg #[(Fl r1), (Fl r3), (Fl r5)]), (.agg #[(Fl r7), (Fl r9), (Fl r11)]), (Pt b14 0), (Pt b21 0), (Pt b29 0), Ud, Ud, Ud, Ud, Ud, Ud, Ud, Ud, Ud, Ud, Ud, Ud, Ud, Ud, Ud, Ud]) _
  refine wpList_nil (hK13 _ _ ?_)
  refine wp_seq_k fun K38 hK38 => ?_
  refine wp_region_lit ?_
  refine q_is (l' := [(.agg #[(Fl r1), (Fl r3), (Fl r5)]), (.agg #[(Fl r7), (Fl r9), (Fl r11)]), (Pt b14 0), (Pt b21 0), (Pt b29 0), (Pt b14 0), Ud, Ud, Ud, Ud, Ud, Ud, Ud, Ud, Ud, Ud, Ud, Ud, Ud, Ud, Ud]) rfl rfl (does_fieldAddr (ev rfl) fa31_0) rfl ?_
  refine q_is (l' := [(.agg #[(Fl r1), (Fl r3), (Fl r5)]), (.agg #[(Fl r7), (Fl r9), (Fl r11)]), (Pt b14 0), (Pt b21 0), (Pt b29 0), (Pt b14 0), (Fl r1), Ud, Ud, Ud, Ud, Ud, Ud, Ud, Ud, Ud, Ud, Ud, Ud, Ud, Ud]) rfl rfl (does_load (u := (Fl r1)) (ev rfl) Try.isAgg25 (Cells.at (Blk.cells ((hB16.ext E24).ext E32)) 0 rfl)) rfl ?_
  refine q_is (l' := [(.agg #[(Fl r1), (Fl r3), (Fl r5)]), (.agg #[(Fl r7), (Fl r9), (Fl r11)]), (Pt b14 0), (Pt b21 0), (Pt b29 0), (Pt b14 0), (Fl r1), (Pt b21 0), Ud, Ud, Ud, Ud, Ud, Ud, Ud, Ud, Ud, Ud, Ud, Ud, Ud]) rfl rfl (does_fieldAddr (ev rfl) fa31_0) rfl ?_
  refine q_is (l' := [(.agg #[(Fl r1), (Fl r3), (Fl r5)]), (.agg #[(Fl r7), (Fl r9), (Fl r11)]), (Pt b14 0), (Pt b21 0), (Pt b29 0), (Pt b14 0), (Fl r1), (Pt b21 0), (Fl r7), Ud, Ud, Ud, Ud, Ud, Ud, Ud, Ud, Ud, Ud, Ud, Ud]) rfl rfl (does_load (u := (Fl r7)) (ev rfl) Try.isAgg25 (Cells.at (Blk.cells (hB23.ext E32)) 0 rfl)) rfl ?_
  refine seqd rfl rfl (does_float (.inl rfl) (ev rfl) (ev rfl)) ?_; rintro _ w42 ⟨r39, rfl, h40, E41⟩
  have X43 := Ext.gr X37 E41
  show wpList _ _ _ _ (fr [(.agg #[(Fl r1), (Fl r3), (Fl r5)]), (.agg #[(Fl r7), (Fl r9), (Fl r11)]), (Pt b14 0), (Pt b21 0), (Pt b29 0), (Pt b14 0), (Fl r1), (Pt b21 0), (Fl r7), (Fl r39), Ud, Ud, Ud, Ud, Ud, Ud, Ud, Ud, Ud, Ud, Ud]) _
  refine q_is (l' := [(.agg #[(Fl r1), (Fl r3), (Fl r5)]), (.agg #[(Fl r7), (Fl r9), (Fl r11)]), (Pt b14 0), (Pt b21 0), (Pt b29 0), (Pt b14 0), (Fl r1), (Pt b21 0), (Fl r7), (Fl r39), (Pt b14 1), Ud, Ud, Ud, Ud, Ud, Ud, Ud, Ud, Ud, Ud]) rfl rfl (does_fieldAddr (ev rfl) fa31_1) rfl ?_
  refine q_is (l' := [(.agg #[(Fl r1), (Fl r3), (Fl r5)]), (.agg #[(Fl r7), (Fl r9), (Fl r11)]), (Pt b14 0), (Pt b21 0), (Pt b29 0), (Pt b14 0), (Fl r1), (Pt b21 0), (Fl r7), (Fl r39), (Pt b14 1), (Fl r3), Ud, Ud, Ud, Ud, Ud, Ud, Ud, Ud, Ud]) rfl rfl (does_load (u := (Fl r3)) (ev rfl) Try.isAgg25 (Cells.at (Blk.cells (((hB16.ext E24).ext E32).ext E41)) 1 rfl)) rfl ?_
  refine q_is (l' := [(.agg #[(Fl r1), (Fl r3), (Fl r5)]), (.agg #[(Fl r7), (Fl r9), (Fl r11)]), (Pt b14 0), (Pt b21 0), (Pt b29 0), (Pt b14 0), (Fl r1), (Pt b21 0), (Fl r7), (Fl r39), (Pt b14 1), (Fl r3), (Pt b21 1), Ud, Ud, Ud, Ud, Ud, Ud, Ud, Ud]) rfl rfl (does_fieldAddr (ev rfl) fa31_1) rfl ?_
  refine q_is (l' := [(.agg #[(Fl r1), (Fl r3), (Fl r5)]), (.agg #[(Fl r7), (Fl r9), (Fl r11)]), (Pt b14 0), (Pt b21 0), (Pt b29 0), (Pt b14 0), (Fl r1), (Pt b21 0), (Fl r7), (Fl r39), (Pt b14 1), (Fl r3), (Pt b21 1), (Fl r9), Ud, Ud, Ud, Ud, Ud, Ud, Ud]) rfl rfl (does_load (u := (Fl r9)) (ev rfl) Try.isAgg25 (Cells.at (Blk.cells ((hB23.ext E32).ext E41)) 1 rfl)) rfl ?_
  refine seqd rfl rfl (does_float (.inl rfl) (ev rfl) (ev rfl)) ?_; rintro _ w47 ⟨r44, rfl, h45, E46⟩
  have X48 := Ext.gr X43 E46
  show wpList _ _ _ _ (fr [(.agg #[(Fl r1), (Fl r3), (Fl r5)]), (.agg #[(Fl r7), (Fl r9), (Fl r11)]), (Pt b14 0), (Pt b21 0), (Pt b29 0), (Pt b14 0), (Fl r1), (Pt b21 0), (Fl r7), (Fl r39), (Pt b14 1), (Fl r3), (Pt b21 1), (Fl r9), (Fl r44), Ud, Ud, Ud, Ud, Ud, Ud]) _
  refine q_is (l' := [(.agg #[(Fl r1), (Fl r3), (Fl r5)]), (.agg #[(Fl r7), (Fl r9), (Fl r11)]), (Pt b14 0), (Pt b21 0), (Pt b29 0), (Pt b14 0), (Fl r1), (Pt b21 0), (Fl r7), (Fl r39), (Pt b14 1), (Fl r3), (Pt b21 1), (Fl r9), (Fl r44), (Pt b14 2), Ud, Ud, Ud, Ud, Ud]) rfl rfl (does_fieldAddr (ev rfl) fa31_2) rfl ?_
  refine q_is (l' := [(.agg #[(Fl r1), (Fl r3), (Fl r5)]), (.agg #[(Fl r7), (Fl r9), (Fl r11)]), (Pt b14 0), (Pt b21 0), (Pt b29 0), (Pt b14 0), (Fl r1), (Pt b21 0), (Fl r7), (Fl r39), (Pt b14 1), (Fl r3), (Pt b21 1), (Fl r9), (Fl r44), (Pt b14 2), (Fl r5), Ud, Ud, Ud, Ud]) rfl rfl (does_load (u := (Fl r5)) (ev rfl) Try.isAgg25 (Cells.at (Blk.cells ((((hB16.ext E24).ext E32).ext E41).ext E46)) 2 rfl)) rfl ?_
  refine q_is (l' := [(.agg #[(Fl r1), (Fl r3), (Fl r5)]), (.agg #[(Fl r7), (Fl r9), (Fl r11)]), (Pt b14 0), (Pt b21 0), (Pt b29 0), (Pt b14 0), (Fl r1), (Pt b21 0), (Fl r7), (Fl r39), (Pt b14 1), (Fl r3), (Pt b21 1), (Fl r9), (Fl r44), (Pt b14 2), (Fl r5), (Pt b21 2), Ud, Ud, Ud]) rfl rfl (does_fieldAddr (ev rfl) fa31_2) rfl ?_
  refine q_is (l' := [(.agg #[(Fl r1), (Fl r3), (Fl r5)]), (.agg #[(Fl r7), (Fl r9), (Fl r11)]), (Pt b14 0), (Pt b21 0), (Pt b29 0), (Pt b14 0), (Fl r1), (Pt b21 0), (Fl r7), (Fl r39), (Pt b14 1), (Fl r3), (Pt b21 1), (Fl r9), (Fl r44), (Pt b14 2), (Fl r5), (Pt b21 2), (Fl r11), Ud, Ud]) rfl rfl (does_load (u := (Fl r11)) (ev rfl) Try.isAgg25 (Cells.at (Blk.cells (((hB23.ext E32).ext E41).ext E46)) 2 rfl)) rfl ?_
  refine seqd rfl rfl (does_float (.inl rfl) (ev rfl) (ev rfl)) ?_; rintro _ w52 ⟨r49, rfl, h50, E51⟩
  have X53 := Ext.gr X48 E51
  show wpList _ _ _ _ (fr [(.agg #[(Fl r1), (Fl r3), (Fl r5)]), (.agg #[(Fl r7), (Fl r9), (Fl r11)]), (Pt b14 0), (Pt b21 0), (Pt b29 0), (Pt b14 0), (Fl r1), (Pt b21 0), (Fl r7), (Fl r39), (Pt b14 1), (Fl r3), (Pt b21 1), (Fl r9), (Fl r44), (Pt b14 2), (Fl r5), (Pt b21 2), (Fl r11), (Fl r49), Ud]) _
  refine q_is (l' := [(.agg #[(Fl r1), (Fl r3), (Fl r5)]), (.agg #[(Fl r7), (Fl r9), (Fl r11)]), (Pt b14 0), (Pt b21 0), (Pt b29 0), (Pt b14 0), (Fl r1), (Pt b21 0), (Fl r7), (Fl r39), (Pt b14 1), (Fl r3), (Pt b21 1), (Fl r9), (Fl r44), (Pt b14 2), (Fl r5), (Pt b21 2), (Fl r11), (Fl r49), (.agg #[(Fl r39), (Fl r44), (Fl r49)])]) rfl rfl (does_build (parts' := [(0, (Fl r39)), (1, (Fl r44)), (2, (Fl r49))]) (cells := #[(Fl r39), (Fl r44), (Fl r49)]) (evp rfl) (by kernel_rfl)) rfl ?_
  refine seqn rfl rfl (does_store (n := 3) (cs := [(Fl 0), (Fl 0), (Fl 0)]) (u := (.agg #[(Fl r39), (Fl r44), (Fl r49)])) (ev rfl) (ev rfl) Try.sizeOf31 rfl (((hB31.ext E41).ext E46).ext E51) (Nat.le_of_ble_eq_true rfl) rfl) ?_; rintro _ w56 ⟨rfl, W54, hB55⟩
  change Blk _ _ [(Fl r39), (Fl r44), (Fl r49)] at hB55
  have X57 := Below.wr X53 W54 g36
  refine wpList_nil (hK38 _ _ ?_)
  refine wp_ret ?_
  refine ret_val (v := (.agg #[(Fl r39), (Fl r44), (Fl r49)])) (res_C rfl (slot rfl) (run_loadAgg (cs := [(Fl r39), (Fl r44), (Fl r49)]) Try.isAgg31 Try.sizeOf31 (Blk.cells hB55) rfl)) X57 ?_
  have x58 : cf .f32 r39 = (vadd A_a A_b).x := by first | rfl | (simp only [vadd, h2, h4, h6, h8, h10, h12, h40, h45, h50]; done) | (simp [vadd, h2, h4, h6, h8, h10, h12, h40, h45, h50]; done)
  have x59 : cf .f32 r44 = (vadd A_a A_b).y := by first | rfl | (simp only [vadd, h2, h4, h6, h8, h10, h12, h40, h45, h50]; done) | (simp [vadd, h2, h4, h6, h8, h10, h12, h40, h45, h50]; done)
  have x60 : cf .f32 r49 = (vadd A_a A_b).z := by first | rfl | (simp only [vadd, h2, h4, h6, h8, h10, h12, h40, h45, h50]; done) | (simp [vadd, h2, h4, h6, h8, h10, h12, h40, h45, h50]; done)
  exact ⟨[(Fl r39), (Fl r44), (Fl r49)], rfl, ⟨r39, r44, r49, rfl, x58, x59, x60⟩⟩

/- impl.GrowBox -/
theorem c_impl_GrowBox (b : List Value) (A_b : Bx) (k : Nat) (w : World) (hv_b : RBx w A_b b) : Gives Try.prog 40 #[(.agg b.toArray), (Fl k)] w (fun v w' => ∃ cs_1 : List Value, v = (.tuple #[(.agg cs_1.toArray), (Bo (growOk A_b (cf .f32 k)))]) ∧ RBx w (gvB (growOk A_b (cf .f32 k)) (growB A_b (cf .f32 k))) cs_1) := by
  obtain ⟨r1, r3, r5, r7, r9, r11, rfl, h2, h4, h6, h8, h10, h12⟩ := hv_b
  refine enter [(.agg #[(Fl r1), (Fl r3), (Fl r5), (Fl r7), (Fl r9), (Fl r11)]), (Fl k), Ud, Ud, Ud, Ud, Ud, Ud, Ud, Ud, Ud, Ud, Ud, Ud, Ud, Ud, Ud, Ud, Ud, Ud, Ud, Ud, Ud, Ud, Ud, Ud, Ud] Try.func40 rfl Try.ntmps40 rfl ?_
  refine wp_seq_k fun K13 hK13 => ?_
  refine wp_region_lit ?_
  refine seqd rfl rfl (does_box (u := (.agg #[(Fl r1), (Fl r3), (Fl r5), (Fl r7), (Fl r9), (Fl r11)])) (ev rfl)) ?_; rintro _ w18 ⟨b14, rfl, hb15, hB16, E17⟩
  have g19 : w.heap.size ≤ b14 := Nat.le_trans (Below.size (Ext.refl w)) hb15
  change Blk _ _ [(Fl r1), (Fl r3), (Fl r5), (Fl r7), (Fl r9), (Fl r11)] at hB16
  have X20 := Ext.gr (Ext.refl w) E17
  show wpList _ _ _ _ (fr [(.agg #[(Fl r1), (Fl r3), (Fl r5), (Fl r7), (Fl r9), (Fl r11)]), (Fl k), (Pt b14 0), Ud, Ud, Ud, Ud, Ud, Ud, Ud, Ud, Ud, Ud, Ud, Ud, Ud, Ud, Ud, Ud, Ud, Ud, Ud, Ud, Ud, Ud, Ud, Ud]) _
  refine seqd rfl rfl (does_alloc z33) ?_; rintro _ w25 ⟨b21, rfl, hb22, hB23, E24⟩
  have n26 : b14 < b21 := Nat.lt_of_lt_of_le (Blk.lt hB16) hb22
  have g27 : w.heap.size ≤ b21 := Nat.le_trans (Below.size X20) hb22
  change Blk _ _ [(Fl 0), (Fl 0), (Fl 0), (Fl 0), (Fl 0), (Fl 0)] at hB23
  have X28 := Ext.gr X20 E24
  show wpList _ _ _ _ (fr [(.agg #[(Fl r1), (Fl r3), (Fl r5), (Fl r7), (Fl r9), (Fl r11)]), (Fl k), (Pt b14 0), Ud, (Pt b21 0), Ud, Ud, Ud, Ud, Ud, Ud, Ud, Ud, Ud, Ud, Ud, Ud, Ud, Ud, Ud, Ud, Ud, Ud, Ud, Ud, Ud, Ud]) _
  refine q_is (l' := [(.agg #[(Fl r1), (Fl r3), (Fl r5), (Fl r7), (Fl r9), (Fl r11)]), (Fl k), (Pt b14 0), Ud, (Pt b21 0), (Bo false), Ud, Ud, Ud, Ud, Ud, Ud, Ud, Ud, Ud, Ud, Ud, Ud, Ud, Ud, Ud, Ud, Ud, Ud, Ud, Ud, Ud]) rfl rfl (does_assign (u := (Bo false)) (ev rfl)) rfl ?_
  refine wpList_nil (hK13 _ _ ?_)
  refine wp_seq_k fun K29 hK29 => ?_
  refine wp_seq_k fun K30 hK30 => ?_
  refine wp_region_lit ?_
  refine q_is (l' := [(.agg #[(Fl r1), (Fl r3), (Fl r5), (Fl r7), (Fl r9), (Fl r11)]), (Fl k), (Pt b14 0), Ud, (Pt b21 0), (Bo false), Ud, (.agg #[(Fl r1), (Fl r3), (Fl r5), (Fl r7), (Fl r9), (Fl r11)]), Ud, Ud, Ud, Ud, Ud, Ud, Ud, Ud, Ud, Ud, Ud, Ud, Ud, Ud, Ud, Ud, Ud, Ud, Ud]) rfl rfl (does_loadAgg (cs := [(Fl r1), (Fl r3), (Fl r5), (Fl r7), (Fl r9), (Fl r11)]) (ev rfl) Try.isAgg33 Try.sizeOf33 (Blk.cells (hB16.ext E24)) rfl) rfl ?_
  refine seqd rfl rfl (does_call (args := #[(.agg #[(Fl r1), (Fl r3), (Fl r5), (Fl r7), (Fl r9), (Fl r11)])]) cal19 (evs rfl) (c_impl_ValidBox [(Fl r1), (Fl r3), (Fl r5), (Fl r7), (Fl r9), (Fl r11)] A_b _ ⟨r1, r3, r5, r7, r9, r11, rfl, h2, h4, h6, h8, h10, h12⟩)) ?_; rintro _ w32 ⟨E31, rfl⟩
  have X33 := Ext.gr X28 E31
  show wpList _ _ _ _ (fr [(.agg #[(Fl r1), (Fl r3), (Fl r5), (Fl r7), (Fl r9), (Fl r11)]), (Fl k), (Pt b14 0), Ud, (Pt b21 0), (Bo false), Ud, (.agg #[(Fl r1), (Fl r3), (Fl r5), (Fl r7), (Fl r9), (Fl r11)]), (Bo (isBox A_b)), Ud, Ud, Ud, Ud, Ud, Ud, Ud, Ud, Ud, Ud, Ud, Ud, Ud, Ud, Ud, Ud, Ud, Ud]) _
  refine q_is (l' := [(.agg #[(Fl r1), (Fl r3), (Fl r5), (Fl r7), (Fl r9), (Fl r11)]), (Fl k), (Pt b14 0), Ud, (Pt b21 0), (Bo false), Ud, (.agg #[(Fl r1), (Fl r3), (Fl r5), (Fl r7), (Fl r9), (Fl r11)]), (Bo (isBox A_b)), (Bo (!(isBox A_b))), Ud, Ud, Ud, Ud, Ud, Ud, Ud, Ud, Ud, Ud, Ud, Ud, Ud, Ud, Ud, Ud, Ud]) rfl rfl (does_not (ev rfl)) rfl ?_
  refine wpList_nil (hK30 _ _ ?_)
  refine wp_cond_split (t := !(isBox A_b)) (ev rfl) (fun c34 => ?_) (fun c34 => ?_)
  · rw [Bool.not_eq_true'] at c34
    have c34' := c34
    refine wp_seq_k fun K35 hK35 => ?_
    refine wp_region_lit ?_
    refine q_is (l' := [(.agg #[(Fl r1), (Fl r3), (Fl r5), (Fl r7), (Fl r9), (Fl r11)]), (Fl k), (Pt b14 0), Ud, (Pt b21 0), (Bo false), Ud, (.agg #[(Fl r1), (Fl r3), (Fl r5), (Fl r7), (Fl r9), (Fl r11)]), (Bo (isBox A_b)), (Bo (!(isBox A_b))), (.agg #[(Fl 0), (Fl 0), (Fl 0), (Fl 0), (Fl 0), (Fl 0)]), Ud, Ud, Ud, Ud, Ud, Ud, Ud, Ud, Ud, Ud, Ud, Ud, Ud, Ud, Ud, Ud]) rfl rfl (does_build (parts' := []) (cells := #[(Fl 0), (Fl 0), (Fl 0), (Fl 0), (Fl 0), (Fl 0)]) (evp rfl) (by kernel_rfl)) rfl ?_
    refine seqn rfl rfl (does_store (n := 6) (cs := [(Fl 0), (Fl 0), (Fl 0), (Fl 0), (Fl 0), (Fl 0)]) (u := (.agg #[(Fl 0), (Fl 0), (Fl 0), (Fl 0), (Fl 0), (Fl 0)])) (ev rfl) (ev rfl) Try.sizeOf33 rfl (hB23.ext E31) (Nat.le_of_ble_eq_true rfl) rfl) ?_; rintro _ w38 ⟨rfl, W36, hB37⟩
    change Blk _ _ [(Fl 0), (Fl 0), (Fl 0), (Fl 0), (Fl 0), (Fl 0)] at hB37
    have X39 := Below.wr X33 W36 g27
    refine q_is (l' := [(.agg #[(Fl r1), (Fl r3), (Fl r5), (Fl r7), (Fl r9), (Fl r11)]), (Fl k), (Pt b14 0), Ud, (Pt b21 0), (Bo false), Ud, (.agg #[(Fl r1), (Fl r3), (Fl r5), (Fl r7), (Fl r9), (Fl r11)]), (Bo (isBox A_b)), (Bo (!(isBox A_b))), (.agg #[(Fl 0), (Fl 0), (Fl 0), (Fl 0), (Fl 0), (Fl 0)]), Ud, Ud, Ud, Ud, Ud, Ud, Ud, Ud, Ud, Ud, Ud, Ud, Ud, Ud, Ud, Ud]) rfl rfl (does_assign (u := (Bo false)) (ev rfl)) rfl ?_
    refine wpList_nil (hK35 _ _ ?_)
    refine wp_ret ?_
    dsimp only [Exit.then, Exit.inBlock]
    refine ret_val (v := (.tuple #[(.agg #[(Fl 0), (Fl 0), (Fl 0), (Fl 0), (Fl 0), (Fl 0)]), (Bo false)])) (res_CT rfl (slot rfl) (run_loadAgg (cs := [(Fl 0), (Fl 0), (Fl 0), (Fl 0), (Fl 0), (Fl 0)]) Try.isAgg33 Try.sizeOf33 (Blk.cells hB37) rfl) (slot rfl)) X39 ?_
    try simp only [h2, h4, h6, h8, h10, h12] at c34
    have x40 : (growOk A_b (cf .f32 k)) = false := by first | rfl | (simp only [growOk, growB, gvB_t, gvB_f, zB, zV, Bool.true_and, Bool.false_and, Bool.and_true, Bool.and_false, Bool.not_eq_true', Bool.not_eq_false', h2, h4, h6, h8, h10, h12, c34]; done) | (simp [growOk, growB, gvB_t, gvB_f, zB, zV, Bool.true_and, Bool.false_and, Bool.and_true, Bool.and_false, Bool.not_eq_true', Bool.not_eq_false', h2, h4, h6, h8, h10, h12, c34]; done) | (revert c34; simp +contextual [growOk, growB, gvB_t, gvB_f, zB, zV, Bool.true_and, Bool.false_and, Bool.and_true, Bool.and_false, Bool.not_eq_true', Bool.not_eq_false', h2, h4, h6, h8, h10, h12]; done) | (rcases c34' with hh | hh <;> simp only [hh, growOk, growB, gvB_t, gvB_f, zB, zV, Bool.true_and, Bool.false_and, Bool.and_true, Bool.and_false, Bool.not_eq_true', Bool.not_eq_false', h2, h4, h6, h8, h10, h12, c34]; done)
    have x41 : cf .f32 0 = (gvB (growOk A_b (cf .f32 k)) (growB A_b (cf .f32 k))).lo.x := by first | rfl | (simp only [growOk, growB, gvB_t, gvB_f, zB, zV, Bool.true_and, Bool.false_and, Bool.and_true, Bool.and_false, Bool.not_eq_true', Bool.not_eq_false', h2, h4, h6, h8, h10, h12, c34]; done) | (simp [growOk, growB, gvB_t, gvB_f, zB, zV, Bool.true_and, Bool.false_and, Bool.and_true, Bool.and_false, Bool.not_eq_true', Bool.not_eq_false', h2, h4, h6, h8, h10, h12, c34]; done) | (revert c34; simp +contextual [growOk, growB, gvB_t, gvB_f, zB, zV, Bool.true_and, Bool.false_and, Bool.and_true, Bool.and_false, Bool.not_eq_true', Bool.not_eq_false', h2, h4, h6, h8, h10, h12]; done) | (rcases c34' with hh | hh <;> simp only [hh, growOk, growB, gvB_t, gvB_f, zB, zV, Bool.true_and, Bool.false_and, Bool.and_true, Bool.and_false, Bool.not_eq_true', Bool.not_eq_false', h2, h4, h6, h8, h10, h12, c34]; done)
    have x42 : cf .f32 0 = (gvB (growOk A_b (cf .f32 k)) (growB A_b (cf .f32 k))).lo.y := by first | rfl | (simp only [growOk, growB, gvB_t, gvB_f, zB, zV, Bool.true_and, Bool.false_and, Bool.and_true, Bool.and_false, Bool.not_eq_true', Bool.not_eq_false', h2, h4, h6, h8, h10, h12, c34]; done) | (simp [growOk, growB, gvB_t, gvB_f, zB, zV, Bool.true_and, Bool.false_and, Bool.and_true, Bool.and_false, Bool.not_eq_true', Bool.not_eq_false', h2, h4, h6, h8, h10, h12, c34]; done) | (revert c34; simp +contextual [growOk, growB, gvB_t, gvB_f, zB, zV, Bool.true_and, Bool.false_and, Bool.and_true, Bool.and_false, Bool.not_eq_true', Bool.not_eq_false', h2, h4, h6, h8, h10, h12]; done) | (rcases c34' with hh | hh <;> simp only [hh, growOk, growB, gvB_t, gvB_f, zB, zV, Bool.true_and, Bool.false_and, Bool.and_true, Bool.and_false, Bool.not_eq_true', Bool.not_eq_false', h2, h4, h6, h8, h10, h12, c34]; done)
    have x43 : cf .f32 0 = (gvB (growOk A_b (cf .f32 k)) (growB A_b (cf .f32 k))).lo.z := by first | rfl | (simp only [growOk, growB, gvB_t, gvB_f, zB, zV, Bool.true_and, Bool.false_and, Bool.and_true, Bool.and_false, Bool.not_eq_true', Bool.not_eq_false', h2, h4, h6, h8, h10, h12, c34]; done) | (simp [growOk, growB, gvB_t, gvB_f, zB, zV, Bool.true_and, Bool.false_and, Bool.and_true, Bool.and_false, Bool.not_eq_true', Bool.not_eq_false', h2, h4, h6, h8, h10, h12, c34]; done) | (revert c34; simp +contextual [growOk, growB, gvB_t, gvB_f, zB, zV, Bool.true_and, Bool.false_and, Bool.and_true, Bool.and_false, Bool.not_eq_true', Bool.not_eq_false', h2, h4, h6, h8, h10, h12]; done) | (rcases c34' with hh | hh <;> simp only [hh, growOk, growB, gvB_t, gvB_f, zB, zV, Bool.true_and, Bool.false_and, Bool.and_true, Bool.and_false, Bool.not_eq_true', Bool.not_eq_false', h2, h4, h6, h8, h10, h12, c34]; done)
    have x44 : cf .f32 0 = (gvB (growOk A_b (cf .f32 k)) (growB A_b (cf .f32 k))).hi.x := by first | rfl | (simp only [growOk, growB, gvB_t, gvB_f, zB, zV, Bool.true_and, Bool.false_and, Bool.and_true, Bool.and_false, Bool.not_eq_true', Bool.not_eq_false', h2, h4, h6, h8, h10, h12, c34]; done) | (simp [growOk, growB, gvB_t, gvB_f, zB, zV, Bool.true_and, Bool.false_and, Bool.and_true, Bool.and_false, Bool.not_eq_true', Bool.not_eq_false', h2, h4, h6, h8, h10, h12, c34]; done) | (revert c34; simp +contextual [growOk, growB, gvB_t, gvB_f, zB, zV, Bool.true_and, Bool.false_and, Bool.and_true, Bool.and_false, Bool.not_eq_true', Bool.not_eq_false', h2, h4, h6, h8, h10, h12]; done) | (rcases c34' with hh | hh <;> simp only [hh, growOk, growB, gvB_t, gvB_f, zB, zV, Bool.true_and, Bool.false_and, Bool.and_true, Bool.and_false, Bool.not_eq_true', Bool.not_eq_false', h2, h4, h6, h8, h10, h12, c34]; done)
    have x45 : cf .f32 0 = (gvB (growOk A_b (cf .f32 k)) (growB A_b (cf .f32 k))).hi.y := by first | rfl | (simp only [growOk, growB, gvB_t, gvB_f, zB, zV, Bool.true_and, Bool.false_and, Bool.and_true, Bool.and_false, Bool.not_eq_true', Bool.not_eq_false', h2, h4, h6, h8, h10, h12, c34]; done) | (simp [growOk, growB, gvB_t, gvB_f, zB, zV, Bool.true_and, Bool.false_and, Bool.and_true, Bool.and_false, Bool.not_eq_true', Bool.not_eq_false', h2, h4, h6, h8, h10, h12, c34]; done) | (revert c34; simp +contextual [growOk, growB, gvB_t, gvB_f, zB, zV, Bool.true_and, Bool.false_and, Bool.and_true, Bool.and_false, Bool.not_eq_true', Bool.not_eq_false', h2, h4, h6, h8, h10, h12]; done) | (rcases c34' with hh | hh <;> simp only [hh, growOk, growB, gvB_t, gvB_f, zB, zV, Bool.true_and, Bool.false_and, Bool.and_true, Bool.and_false, Bool.not_eq_true', Bool.not_eq_false', h2, h4, h6, h8, h10, h12, c34]; done)
    have x46 : cf .f32 0 = (gvB (growOk A_b (cf .f32 k)) (growB A_b (cf .f32 k))).hi.z := by first | rfl | (simp only [growOk, growB, gvB_t, gvB_f, zB, zV, Bool.true_and, Bool.false_and, Bool.and_true, Bool.and_false, Bool.not_eq_true', Bool.not_eq_false', h2, h4, h6, h8, h10, h12, c34]; done) | (simp [growOk, growB, gvB_t, gvB_f, zB, zV, Bool.true_and, Bool.false_and, Bool.and_true, Bool.and_false, Bool.not_eq_true', Bool.not_eq_false', h2, h4, h6, h8, h10, h12, c34]; done) | (revert c34; simp +contextual [growOk, growB, gvB_t, gvB_f, zB, zV, Bool.true_and, Bool.false_and, Bool.and_true, Bool.and_false, Bool.not_eq_true', Bool.not_eq_false', h2, h4, h6, h8, h10, h12]; done) | (rcases c34' with hh | hh <;> simp only [hh, growOk, growB, gvB_t, gvB_f, zB, zV, Bool.true_and, Bool.false_and, Bool.and_true, Bool.and_false, Bool.not_eq_true', Bool.not_eq_false', h2, h4, h6, h8, h10, h12, c34]; done)
    exact ⟨[(Fl 0), (Fl 0), (Fl 0), (Fl 0), (Fl 0), (Fl 0)], (by first | rfl | rw [x40]), ⟨0, 0, 0, 0, 0, 0, rfl, x41, x42, x43, x44, x45, x46⟩⟩
  rw [Bool.not_eq_false'] at c34
  have c34' := c34
  refine wp_skip (hK29 _ _ ?_)
  refine wp_seq_k fun K47 hK47 => ?_
  refine wp_region_lit ?_
  refine q_is (l' := [(.agg #[(Fl r1), (Fl r3), (Fl r5), (Fl r7), (Fl r9), (Fl r11)]), (Fl k), (Pt b14 0), Ud, (Pt b21 0), (Bo false), Ud, (.agg #[(Fl r1), (Fl r3), (Fl r5), (Fl r7), (Fl r9), (Fl r11)]), (Bo (isBox A_b)), (Bo (!(isBox A_b))), Ud, (Fl k), Ud, Ud, Ud, Ud, Ud, Ud, Ud, Ud, Ud, Ud, Ud, Ud, Ud, Ud, Ud]) rfl rfl (does_move (u := (Fl k)) (ev rfl)) rfl ?_
  refine q_is (l' := [(.agg #[(Fl r1), (Fl r3), (Fl r5), (Fl r7), (Fl r9), (Fl r11)]), (Fl k), (Pt b14 0), Ud, (Pt b21 0), (Bo false), Ud, (.agg #[(Fl r1), (Fl r3), (Fl r5), (Fl r7), (Fl r9), (Fl r11)]), (Bo (isBox A_b)), (Bo (!(isBox A_b))), Ud, (Fl k), (Fl k), Ud, Ud, Ud, Ud, Ud, Ud, Ud, Ud, Ud, Ud, Ud, Ud, Ud, Ud]) rfl rfl (does_move (u := (Fl k)) (ev rfl)) rfl ?_
  refine q_is (l' := [(.agg #[(Fl r1), (Fl r3), (Fl r5), (Fl r7), (Fl r9), (Fl r11)]), (Fl k), (Pt b14 0), Ud, (Pt b21 0), (Bo false), Ud, (.agg #[(Fl r1), (Fl r3), (Fl r5), (Fl r7), (Fl r9), (Fl r11)]), (Bo (isBox A_b)), (Bo (!(isBox A_b))), Ud, (Fl k), (Fl k), (Fl k), Ud, Ud, Ud, Ud, Ud, Ud, Ud, Ud, Ud, Ud, Ud, Ud, Ud]) rfl rfl (does_move (u := (Fl k)) (ev rfl)) rfl ?_
  refine q_is (l' := [(.agg #[(Fl r1), (Fl r3), (Fl r5), (Fl r7), (Fl r9), (Fl r11)]), (Fl k), (Pt b14 0), Ud, (Pt b21 0), (Bo false), Ud, (.agg #[(Fl r1), (Fl r3), (Fl r5), (Fl r7), (Fl r9), (Fl r11)]), (Bo (isBox A_b)), (Bo (!(isBox A_b))), Ud, (Fl k), (Fl k), (Fl k), (.agg #[(Fl k), (Fl k), (Fl k)]), Ud, Ud, Ud, Ud, Ud, Ud, Ud, Ud, Ud, Ud, Ud, Ud]) rfl rfl (does_build (parts' := [(0, (Fl k)), (1, (Fl k)), (2, (Fl k))]) (cells := #[(Fl k), (Fl k), (Fl k)]) (evp rfl) (by kernel_rfl)) rfl ?_
  refine seqd rfl rfl (does_alloc z31) ?_; rintro _ w52 ⟨b48, rfl, hb49, hB50, E51⟩
  have n53 : b14 < b48 := Nat.lt_of_lt_of_le (Blk.lt ((hB16.ext E24).ext E31)) hb49
  have n54 : b21 < b48 := Nat.lt_of_lt_of_le (Blk.lt (hB23.ext E31)) hb49
  have g55 : w.heap.size ≤ b48 := Nat.le_trans (Below.size X33) hb49
  change Blk _ _ [(Fl 0), (Fl 0), (Fl 0)] at hB50
  have X56 := Ext.gr X33 E51
  show wpList _ _ _ _ (fr [(.agg #[(Fl r1), (Fl r3), (Fl r5), (Fl r7), (Fl r9), (Fl r11)]), (Fl k), (Pt b14 0), Ud, (Pt b21 0), (Bo false), (Pt b48 0), (.agg #[(Fl r1), (Fl r3), (Fl r5), (Fl r7), (Fl r9), (Fl r11)]), (Bo (isBox A_b)), (Bo (!(isBox A_b))), Ud, (Fl k), (Fl k), (Fl k), (.agg #[(Fl k), (Fl k), (Fl k)]), Ud, Ud, Ud, Ud, Ud, Ud, Ud, Ud, Ud, Ud, Ud, Ud]) _
  refine seqn rfl rfl (does_store (n := 3) (cs := [(Fl 0), (Fl 0), (Fl 0)]) (u := (.agg #[(Fl k), (Fl k), (Fl k)])) (ev rfl) (ev rfl) Try.sizeOf31 rfl hB50 (Nat.le_of_ble_eq_true rfl) rfl) ?_; rintro _ w59 ⟨rfl, W57, hB58⟩
  change Blk _ _ [(Fl k), (Fl k), (Fl k)] at hB58
  have X60 := Below.wr X56 W57 g55
  refine wpList_nil (hK47 _ _ ?_)
  refine wp_seq_k fun K61 hK61 => ?_
  obtain ⟨β1, hβ1⟩ : ∃ b : Bool, b = (isBox (Bx.mk (vsub A_b.lo (V3.mk (cf .f32 k) (cf .f32 k) (cf .f32 k))) (vadd A_b.hi (V3.mk (cf .f32 k) (cf .f32 k) (cf .f32 k))))) := ⟨_, rfl⟩
  refine region_draw (
    [Fact.pure [] (fun v => v = (Pt b14 0)),
    Fact.pure [15] (fun v => v = (.agg #[(Fl r1), (Fl r3), (Fl r5)])),
    Fact.pure [] (fun v => v = (.agg #[(Fl k), (Fl k), (Fl k)])),
    Fact.pure [16, 17] (fun v => ∃ cs_1 : List Value, v = (.agg cs_1.toArray) ∧ RV3 w (vsub A_b.lo (V3.mk (cf .f32 k) (cf .f32 k) (cf .f32 k))) cs_1),
    Fact.pure [] (fun v => v = (Pt b14 3)),
    Fact.pure [19] (fun v => v = (.agg #[(Fl r7), (Fl r9), (Fl r11)])),
    Fact.pure [] (fun v => v = (.agg #[(Fl k), (Fl k), (Fl k)])),
    Fact.pure [20, 21] (fun v => ∃ cs_1 : List Value, v = (.agg cs_1.toArray) ∧ RV3 w (vadd A_b.hi (V3.mk (cf .f32 k) (cf .f32 k) (cf .f32 k))) cs_1),
    Fact.pure [18, 22] (fun v => ∃ r_1 : Nat, ∃ r_2 : Nat, ∃ r_3 : Nat, ∃ r_4 : Nat, ∃ r_5 : Nat, ∃ r_6 : Nat, v = (.agg #[(Fl r_1), (Fl r_2), (Fl r_3), (Fl r_4), (Fl r_5), (Fl r_6)]) ∧ cf .f32 r_1 = (vsub A_b.lo (V3.mk (cf .f32 k) (cf .f32 k) (cf .f32 k))).x ∧ cf .f32 r_2 = (vsub A_b.lo (V3.mk (cf .f32 k) (cf .f32 k) (cf .f32 k))).y ∧ cf .f32 r_3 = (vsub A_b.lo (V3.mk (cf .f32 k) (cf .f32 k) (cf .f32 k))).z ∧ cf .f32 r_4 = (vadd A_b.hi (V3.mk (cf .f32 k) (cf .f32 k) (cf .f32 k))).x ∧ cf .f32 r_5 = (vadd A_b.hi (V3.mk (cf .f32 k) (cf .f32 k) (cf .f32 k))).y ∧ cf .f32 r_6 = (vadd A_b.hi (V3.mk (cf .f32 k) (cf .f32 k) (cf .f32 k))).z),
    Fact.pure [23] (fun v => ∃ cs_1 : List Value, v = (.tuple #[(.agg cs_1.toArray), (Bo (isBox (Bx.mk (vsub A_b.lo (V3.mk (cf .f32 k) (cf .f32 k) (cf .f32 k))) (vadd A_b.hi (V3.mk (cf .f32 k) (cf .f32 k) (cf .f32 k))))))]) ∧ RBx w (gvB (isBox (Bx.mk (vsub A_b.lo (V3.mk (cf .f32 k) (cf .f32 k) (cf .f32 k))) (vadd A_b.hi (V3.mk (cf .f32 k) (cf .f32 k) (cf .f32 k))))) (Bx.mk (vsub A_b.lo (V3.mk (cf .f32 k) (cf .f32 k) (cf .f32 k))) (vadd A_b.hi (V3.mk (cf .f32 k) (cf .f32 k) (cf .f32 k))))) cs_1),
    Fact.pure [24] (fun v => ∃ r_1 : Nat, ∃ r_2 : Nat, ∃ r_3 : Nat, ∃ r_4 : Nat, ∃ r_5 : Nat, ∃ r_6 : Nat, v = (.agg #[(Fl r_1), (Fl r_2), (Fl r_3), (Fl r_4), (Fl r_5), (Fl r_6)]) ∧ cf .f32 r_1 = (gvB (isBox (Bx.mk (vsub A_b.lo (V3.mk (cf .f32 k) (cf .f32 k) (cf .f32 k))) (vadd A_b.hi (V3.mk (cf .f32 k) (cf .f32 k) (cf .f32 k))))) (Bx.mk (vsub A_b.lo (V3.mk (cf .f32 k) (cf .f32 k) (cf .f32 k))) (vadd A_b.hi (V3.mk (cf .f32 k) (cf .f32 k) (cf .f32 k))))).lo.x ∧ cf .f32 r_2 = (gvB (isBox (Bx.mk (vsub A_b.lo (V3.mk (cf .f32 k) (cf .f32 k) (cf .f32 k))) (vadd A_b.hi (V3.mk (cf .f32 k) (cf .f32 k) (cf .f32 k))))) (Bx.mk (vsub A_b.lo (V3.mk (cf .f32 k) (cf .f32 k) (cf .f32 k))) (vadd A_b.hi (V3.mk (cf .f32 k) (cf .f32 k) (cf .f32 k))))).lo.y ∧ cf .f32 r_3 = (gvB (isBox (Bx.mk (vsub A_b.lo (V3.mk (cf .f32 k) (cf .f32 k) (cf .f32 k))) (vadd A_b.hi (V3.mk (cf .f32 k) (cf .f32 k) (cf .f32 k))))) (Bx.mk (vsub A_b.lo (V3.mk (cf .f32 k) (cf .f32 k) (cf .f32 k))) (vadd A_b.hi (V3.mk (cf .f32 k) (cf .f32 k) (cf .f32 k))))).lo.z ∧ cf .f32 r_4 = (gvB (isBox (Bx.mk (vsub A_b.lo (V3.mk (cf .f32 k) (cf .f32 k) (cf .f32 k))) (vadd A_b.hi (V3.mk (cf .f32 k) (cf .f32 k) (cf .f32 k))))) (Bx.mk (vsub A_b.lo (V3.mk (cf .f32 k) (cf .f32 k) (cf .f32 k))) (vadd A_b.hi (V3.mk (cf .f32 k) (cf .f32 k) (cf .f32 k))))).hi.x ∧ cf .f32 r_5 = (gvB (isBox (Bx.mk (vsub A_b.lo (V3.mk (cf .f32 k) (cf .f32 k) (cf .f32 k))) (vadd A_b.hi (V3.mk (cf .f32 k) (cf .f32 k) (cf .f32 k))))) (Bx.mk (vsub A_b.lo (V3.mk (cf .f32 k) (cf .f32 k) (cf .f32 k))) (vadd A_b.hi (V3.mk (cf .f32 k) (cf .f32 k) (cf .f32 k))))).hi.y ∧ cf .f32 r_6 = (gvB (isBox (Bx.mk (vsub A_b.lo (V3.mk (cf .f32 k) (cf .f32 k) (cf .f32 k))) (vadd A_b.hi (V3.mk (cf .f32 k) (cf .f32 k) (cf .f32 k))))) (Bx.mk (vsub A_b.lo (V3.mk (cf .f32 k) (cf .f32 k) (cf .f32 k))) (vadd A_b.hi (V3.mk (cf .f32 k) (cf .f32 k) (cf .f32 k))))).hi.z),
    Fact.pure [24] (fun v => v = (Bo β1))]) mixed (by kernel_rfl) (by intro _ _ d _ _ h; cases d <;> exact h) ?_
  obtain ⟨w62, hw64⟩ : ∃ w', w' = World.drew w59 := ⟨_, rfl⟩; rw [← hw64]; have E63 : Ext w59 w62 := by rw [hw64]; exact Ext.draw _
  clear hw64
  have X65 := Ext.gr X60 E63
  refine RW_d (fun v66 => [(.agg #[(Fl r1), (Fl r3), (Fl r5), (Fl r7), (Fl r9), (Fl r11)]), (Fl k), (Pt b14 0), Ud, (Pt b21 0), (Bo false), (Pt b48 0), (.agg #[(Fl r1), (Fl r3), (Fl r5), (Fl r7), (Fl r9), (Fl r11)]), (Bo (isBox A_b)), (Bo (!(isBox A_b))), Ud, (Fl k), (Fl k), (Fl k), (.agg #[(Fl k), (Fl k), (Fl k)]), v66, Ud, Ud, Ud, Ud, Ud, Ud, Ud, Ud, Ud, Ud, Ud]) rfl (fun _ => rfl) (fun u hu hF => ?_) (fun v66 => ?_)
  · clear hF
    refine doesG_un rfl ?_
    refine (does_fieldAddr (ev rfl) fa33_0).mono ?_; rintro _ _ ⟨rfl, rfl⟩
    exact ⟨rfl, Ext.refl _⟩
  refine RW_d (fun v67 => [(.agg #[(Fl r1), (Fl r3), (Fl r5), (Fl r7), (Fl r9), (Fl r11)]), (Fl k), (Pt b14 0), Ud, (Pt b21 0), (Bo false), (Pt b48 0), (.agg #[(Fl r1), (Fl r3), (Fl r5), (Fl r7), (Fl r9), (Fl r11)]), (Bo (isBox A_b)), (Bo (!(isBox A_b))), Ud, (Fl k), (Fl k), (Fl k), (.agg #[(Fl k), (Fl k), (Fl k)]), v66, v67, Ud, Ud, Ud, Ud, Ud, Ud, Ud, Ud, Ud, Ud]) rfl (fun _ => rfl) (fun u hu hF => ?_) (fun v67 => ?_)
  · have h15_ : v66 = (Pt b14 0) := hF.1
    clear hF
    obtain rfl := h15_
    refine doesG_un rfl ?_
    refine (does_loadAgg (cs := [(Fl r1), (Fl r3), (Fl r5)]) (ev rfl) Try.isAgg31 Try.sizeOf31 (Cells.sub (Blk.cells ((((((hB16.ext E24).ext E31).ext E51).wr W57 (Nat.ne_of_lt n53)).ext E63).ext hu)) 0 3) rfl).mono ?_; rintro _ _ ⟨rfl, rfl⟩
    exact ⟨rfl, Ext.refl _⟩
  refine RW_d (fun v68 => [(.agg #[(Fl r1), (Fl r3), (Fl r5), (Fl r7), (Fl r9), (Fl r11)]), (Fl k), (Pt b14 0), Ud, (Pt b21 0), (Bo false), (Pt b48 0), (.agg #[(Fl r1), (Fl r3), (Fl r5), (Fl r7), (Fl r9), (Fl r11)]), (Bo (isBox A_b)), (Bo (!(isBox A_b))), Ud, (Fl k), (Fl k), (Fl k), (.agg #[(Fl k), (Fl k), (Fl k)]), v66, v67, v68, Ud, Ud, Ud, Ud, Ud, Ud, Ud, Ud, Ud]) rfl (fun _ => rfl) (fun u hu hF => ?_) (fun v68 => ?_)
  · clear hF
    refine doesG_un rfl ?_
    refine (does_loadAgg (cs := [(Fl k), (Fl k), (Fl k)]) (ev rfl) Try.isAgg31 Try.sizeOf31 (Blk.cells ((hB58.ext E63).ext hu)) rfl).mono ?_; rintro _ _ ⟨rfl, rfl⟩
    exact ⟨rfl, Ext.refl _⟩
  refine RW_d (fun v69 => [(.agg #[(Fl r1), (Fl r3), (Fl r5), (Fl r7), (Fl r9), (Fl r11)]), (Fl k), (Pt b14 0), Ud, (Pt b21 0), (Bo false), (Pt b48 0), (.agg #[(Fl r1), (Fl r3), (Fl r5), (Fl r7), (Fl r9), (Fl r11)]), (Bo (isBox A_b)), (Bo (!(isBox A_b))), Ud, (Fl k), (Fl k), (Fl k), (.agg #[(Fl k), (Fl k), (Fl k)]), v66, v67, v68, v69, Ud, Ud, Ud, Ud, Ud, Ud, Ud, Ud]) rfl (fun _ => rfl) (fun u hu hF => ?_) (fun v69 => ?_)
  · have h16_ : v67 = (.agg #[(Fl r1), (Fl r3), (Fl r5)]) := hF.1
    have h17_ : v68 = (.agg #[(Fl k), (Fl k), (Fl k)]) := hF.2.1
    clear hF
    obtain rfl := h16_
    obtain rfl := h17_
    refine doesG_un rfl ?_
    refine (does_call (args := #[(.agg #[(Fl r1), (Fl r3), (Fl r5)]), (.agg #[(Fl k), (Fl k), (Fl k)])]) cal59 (evs rfl) (c_impl_LessVectors [(Fl r1), (Fl r3), (Fl r5)] A_b.lo [(Fl k), (Fl k), (Fl k)] (V3.mk (cf .f32 k) (cf .f32 k) (cf .f32 k)) _ ⟨r1, r3, r5, rfl, h2, h4, h6⟩ ⟨k, k, k, rfl, rfl, rfl, rfl⟩)).mono ?_; rintro v u' ⟨hx, ⟨csn1, hv, k0⟩⟩
    exact ⟨⟨csn1, hv, k0⟩, hx⟩
  refine RW_d (fun v70 => [(.agg #[(Fl r1), (Fl r3), (Fl r5), (Fl r7), (Fl r9), (Fl r11)]), (Fl k), (Pt b14 0), Ud, (Pt b21 0), (Bo false), (Pt b48 0), (.agg #[(Fl r1), (Fl r3), (Fl r5), (Fl r7), (Fl r9), (Fl r11)]), (Bo (isBox A_b)), (Bo (!(isBox A_b))), Ud, (Fl k), (Fl k), (Fl k), (.agg #[(Fl k), (Fl k), (Fl k)]), v66, v67, v68, v69, v70, Ud, Ud, Ud, Ud, Ud, Ud, Ud]) rfl (fun _ => rfl) (fun u hu hF => ?_) (fun v70 => ?_)
  · clear hF
    refine doesG_un rfl ?_
    refine (does_fieldAddr (ev rfl) fa33_1).mono ?_; rintro _ _ ⟨rfl, rfl⟩
    exact ⟨rfl, Ext.refl _⟩
  refine RW_d (fun v71 => [(.agg #[(Fl r1), (Fl r3), (Fl r5), (Fl r7), (Fl r9), (Fl r11)]), (Fl k), (Pt b14 0), Ud, (Pt b21 0), (Bo false), (Pt b48 0), (.agg #[(Fl r1), (Fl r3), (Fl r5), (Fl r7), (Fl r9), (Fl r11)]), (Bo (isBox A_b)), (Bo (!(isBox A_b))), Ud, (Fl k), (Fl k), (Fl k), (.agg #[(Fl k), (Fl k), (Fl k)]), v66, v67, v68, v69, v70, v71, Ud, Ud, Ud, Ud, Ud, Ud]) rfl (fun _ => rfl) (fun u hu hF => ?_) (fun v71 => ?_)
  · have h19_ : v70 = (Pt b14 3) := hF.1
    clear hF
    obtain rfl := h19_
    refine doesG_un rfl ?_
    refine (does_loadAgg (cs := [(Fl r7), (Fl r9), (Fl r11)]) (ev rfl) Try.isAgg31 Try.sizeOf31 (Cells.sub (Blk.cells ((((((hB16.ext E24).ext E31).ext E51).wr W57 (Nat.ne_of_lt n53)).ext E63).ext hu)) 3 3) rfl).mono ?_; rintro _ _ ⟨rfl, rfl⟩
    exact ⟨rfl, Ext.refl _⟩
  refine RW_d (fun v72 => [(.agg #[(Fl r1), (Fl r3), (Fl r5), (Fl r7), (Fl r9), (Fl r11)]), (Fl k), (Pt b14 0), Ud, (Pt b21 0), (Bo false), (Pt b48 0), (.agg #[(Fl r1), (Fl r3), (Fl r5), (Fl r7), (Fl r9), (Fl r11)]), (Bo (isBox A_b)), (Bo (!(isBox A_b))), Ud, (Fl k), (Fl k), (Fl k), (.agg #[(Fl k), (Fl k), (Fl k)]), v66, v67, v68, v69, v70, v71, v72, Ud, Ud, Ud, Ud, Ud]) rfl (fun _ => rfl) (fun u hu hF => ?_) (fun v72 => ?_)
  · clear hF
    refine doesG_un rfl ?_
    refine (does_loadAgg (cs := [(Fl k), (Fl k), (Fl k)]) (ev rfl) Try.isAgg31 Try.sizeOf31 (Blk.cells ((hB58.ext E63).ext hu)) rfl).mono ?_; rintro _ _ ⟨rfl, rfl⟩
    exact ⟨rfl, Ext.refl _⟩
  refine RW_d (fun v73 => [(.agg #[(Fl r1), (Fl r3), (Fl r5), (Fl r7), (Fl r9), (Fl r11)]), (Fl k), (Pt b14 0), Ud, (Pt b21 0), (Bo false), (Pt b48 0), (.agg #[(Fl r1), (Fl r3), (Fl r5), (Fl r7), (Fl r9), (Fl r11)]), (Bo (isBox A_b)), (Bo (!(isBox A_b))), Ud, (Fl k), (Fl k), (Fl k), (.agg #[(Fl k), (Fl k), (Fl k)]), v66, v67, v68, v69, v70, v71, v72, v73, Ud, Ud, Ud, Ud]) rfl (fun _ => rfl) (fun u hu hF => ?_) (fun v73 => ?_)
  · have h20_ : v71 = (.agg #[(Fl r7), (Fl r9), (Fl r11)]) := hF.1
    have h21_ : v72 = (.agg #[(Fl k), (Fl k), (Fl k)]) := hF.2.1
    clear hF
    obtain rfl := h20_
    obtain rfl := h21_
    refine doesG_un rfl ?_
    refine (does_call (args := #[(.agg #[(Fl r7), (Fl r9), (Fl r11)]), (.agg #[(Fl k), (Fl k), (Fl k)])]) cal81 (evs rfl) (c_impl_AddVectors [(Fl r7), (Fl r9), (Fl r11)] A_b.hi [(Fl k), (Fl k), (Fl k)] (V3.mk (cf .f32 k) (cf .f32 k) (cf .f32 k)) _ ⟨r7, r9, r11, rfl, h8, h10, h12⟩ ⟨k, k, k, rfl, rfl, rfl, rfl⟩)).mono ?_; rintro v u' ⟨hx, ⟨csn1, hv, k0⟩⟩
    exact ⟨⟨csn1, hv, k0⟩, hx⟩
  refine RW_d (fun v74 => [(.agg #[(Fl r1), (Fl r3), (Fl r5), (Fl r7), (Fl r9), (Fl r11)]), (Fl k), (Pt b14 0), Ud, (Pt b21 0), (Bo false), (Pt b48 0), (.agg #[(Fl r1), (Fl r3), (Fl r5), (Fl r7), (Fl r9), (Fl r11)]), (Bo (isBox A_b)), (Bo (!(isBox A_b))), Ud, (Fl k), (Fl k), (Fl k), (.agg #[(Fl k), (Fl k), (Fl k)]), v66, v67, v68, v69, v70, v71, v72, v73, v74, Ud, Ud, Ud]) rfl (fun _ => rfl) (fun u hu hF => ?_) (fun v74 => ?_)
  · have h18_ : ∃ cs_1 : List Value, v69 = (.agg cs_1.toArray) ∧ RV3 w (vsub A_b.lo (V3.mk (cf .f32 k) (cf .f32 k) (cf .f32 k))) cs_1 := hF.1
    have h22_ : ∃ cs_1 : List Value, v73 = (.agg cs_1.toArray) ∧ RV3 w (vadd A_b.hi (V3.mk (cf .f32 k) (cf .f32 k) (cf .f32 k))) cs_1 := hF.2.1
    clear hF
    obtain ⟨_, rfl, ⟨r18_1, r18_3, r18_5, rfl, h18_2, h18_4, h18_6⟩⟩ := h18_
    obtain ⟨_, rfl, ⟨r22_1, r22_3, r22_5, rfl, h22_2, h22_4, h22_6⟩⟩ := h22_
    refine doesG_un rfl ?_
    refine (does_build (parts' := [(0, (.agg #[(Fl r18_1), (Fl r18_3), (Fl r18_5)])), (1, (.agg #[(Fl r22_1), (Fl r22_3), (Fl r22_5)]))]) (cells := #[(Fl r18_1), (Fl r18_3), (Fl r18_5), (Fl r22_1), (Fl r22_3), (Fl r22_5)]) (evp rfl) (by kernel_rfl)).mono ?_; rintro _ _ ⟨rfl, rfl⟩
    exact ⟨⟨r18_1, r18_3, r18_5, r22_1, r22_3, r22_5, rfl, (by simp only [h18_2, h18_4, h18_6, h22_2, h22_4, h22_6]), (by simp only [h18_2, h18_4, h18_6, h22_2, h22_4, h22_6]), (by simp only [h18_2, h18_4, h18_6, h22_2, h22_4, h22_6]), (by simp only [h18_2, h18_4, h18_6, h22_2, h22_4, h22_6]), (by simp only [h18_2, h18_4, h18_6, h22_2, h22_4, h22_6]), (by simp only [h18_2, h18_4, h18_6, h22_2, h22_4, h22_6])⟩, Ext.refl _⟩
  refine RW_d (fun v75 => [(.agg #[(Fl r1), (Fl r3), (Fl r5), (Fl r7), (Fl r9), (Fl r11)]), (Fl k), (Pt b14 0), Ud, (Pt b21 0), (Bo false), (Pt b48 0), (.agg #[(Fl r1), (Fl r3), (Fl r5), (Fl r7), (Fl r9), (Fl r11)]), (Bo (isBox A_b)), (Bo (!(isBox A_b))), Ud, (Fl k), (Fl k), (Fl k), (.agg #[(Fl k), (Fl k), (Fl k)]), v66, v67, v68, v69, v70, v71, v72, v73, v74, v75, Ud, Ud]) rfl (fun _ => rfl) (fun u hu hF => ?_) (fun v75 => ?_)
  · have h23_ : ∃ r_1 : Nat, ∃ r_2 : Nat, ∃ r_3 : Nat, ∃ r_4 : Nat, ∃ r_5 : Nat, ∃ r_6 : Nat, v74 = (.agg #[(Fl r_1), (Fl r_2), (Fl r_3), (Fl r_4), (Fl r_5), (Fl r_6)]) ∧ cf .f32 r_1 = (vsub A_b.lo (V3.mk (cf .f32 k) (cf .f32 k) (cf .f32 k))).x ∧ cf .f32 r_2 = (vsub A_b.lo (V3.mk (cf .f32 k) (cf .f32 k) (cf .f32 k))).y ∧ cf .f32 r_3 = (vsub A_b.lo (V3.mk (cf .f32 k) (cf .f32 k) (cf .f32 k))).z ∧ cf .f32 r_4 = (vadd A_b.hi (V3.mk (cf .f32 k) (cf .f32 k) (cf .f32 k))).x ∧ cf .f32 r_5 = (vadd A_b.hi (V3.mk (cf .f32 k) (cf .f32 k) (cf .f32 k))).y ∧ cf .f32 r_6 = (vadd A_b.hi (V3.mk (cf .f32 k) (cf .f32 k) (cf .f32 k))).z := hF.1
    clear hF
    obtain ⟨r23_1, r23_3, r23_5, r23_7, r23_9, r23_11, rfl, h23_2, h23_4, h23_6, h23_8, h23_10, h23_12⟩ := h23_
    refine doesG_un rfl ?_
    refine (does_call (args := #[(.agg #[(Fl r23_1), (Fl r23_3), (Fl r23_5), (Fl r23_7), (Fl r23_9), (Fl r23_11)])]) cal80 (evs rfl) (c_impl_toldBox [(Fl r23_1), (Fl r23_3), (Fl r23_5), (Fl r23_7), (Fl r23_9), (Fl r23_11)] (Bx.mk (vsub A_b.lo (V3.mk (cf .f32 k) (cf .f32 k) (cf .f32 k))) (vadd A_b.hi (V3.mk (cf .f32 k) (cf .f32 k) (cf .f32 k)))) _ ⟨r23_1, r23_3, r23_5, r23_7, r23_9, r23_11, rfl, (by assumption), (by assumption), (by assumption), (by assumption), (by assumption), (by assumption)⟩)).mono ?_; rintro v u' ⟨hx, ⟨csn1, hv, k0⟩⟩
    exact ⟨⟨csn1, hv.trans (by simp only [h23_2, h23_4, h23_6, h23_8, h23_10, h23_12]), (by first | exact k0 | simpa only [h23_2, h23_4, h23_6, h23_8, h23_10, h23_12] using RBx.any (w := w) k0)⟩, hx⟩
  refine RW_d (fun v76 => [(.agg #[(Fl r1), (Fl r3), (Fl r5), (Fl r7), (Fl r9), (Fl r11)]), (Fl k), (Pt b14 0), Ud, (Pt b21 0), (Bo false), (Pt b48 0), (.agg #[(Fl r1), (Fl r3), (Fl r5), (Fl r7), (Fl r9), (Fl r11)]), (Bo (isBox A_b)), (Bo (!(isBox A_b))), Ud, (Fl k), (Fl k), (Fl k), (.agg #[(Fl k), (Fl k), (Fl k)]), v66, v67, v68, v69, v70, v71, v72, v73, v74, v75, v76, Ud]) rfl (fun _ => rfl) (fun u hu hF => ?_) (fun v76 => ?_)
  · have h24_ : ∃ cs_1 : List Value, v75 = (.tuple #[(.agg cs_1.toArray), (Bo (isBox (Bx.mk (vsub A_b.lo (V3.mk (cf .f32 k) (cf .f32 k) (cf .f32 k))) (vadd A_b.hi (V3.mk (cf .f32 k) (cf .f32 k) (cf .f32 k))))))]) ∧ RBx w (gvB (isBox (Bx.mk (vsub A_b.lo (V3.mk (cf .f32 k) (cf .f32 k) (cf .f32 k))) (vadd A_b.hi (V3.mk (cf .f32 k) (cf .f32 k) (cf .f32 k))))) (Bx.mk (vsub A_b.lo (V3.mk (cf .f32 k) (cf .f32 k) (cf .f32 k))) (vadd A_b.hi (V3.mk (cf .f32 k) (cf .f32 k) (cf .f32 k))))) cs_1 := hF.1
    clear hF
    obtain ⟨_, rfl, ⟨r24_1, r24_3, r24_5, r24_7, r24_9, r24_11, rfl, h24_2, h24_4, h24_6, h24_8, h24_10, h24_12⟩⟩ := h24_
    refine doesG_un rfl ?_
    refine (does_extract (vs := #[(.agg #[(Fl r24_1), (Fl r24_3), (Fl r24_5), (Fl r24_7), (Fl r24_9), (Fl r24_11)]), (Bo (isBox (Bx.mk (vsub A_b.lo (V3.mk (cf .f32 k) (cf .f32 k) (cf .f32 k))) (vadd A_b.hi (V3.mk (cf .f32 k) (cf .f32 k) (cf .f32 k))))))]) (u := (.agg #[(Fl r24_1), (Fl r24_3), (Fl r24_5), (Fl r24_7), (Fl r24_9), (Fl r24_11)])) (ev rfl) rfl).mono ?_; rintro _ _ ⟨rfl, rfl⟩
    exact ⟨⟨r24_1, r24_3, r24_5, r24_7, r24_9, r24_11, rfl, (by simp only [h24_2, h24_4, h24_6, h24_8, h24_10, h24_12]), (by simp only [h24_2, h24_4, h24_6, h24_8, h24_10, h24_12]), (by simp only [h24_2, h24_4, h24_6, h24_8, h24_10, h24_12]), (by simp only [h24_2, h24_4, h24_6, h24_8, h24_10, h24_12]), (by simp only [h24_2, h24_4, h24_6, h24_8, h24_10, h24_12]), (by simp only [h24_2, h24_4, h24_6, h24_8, h24_10, h24_12])⟩, Ext.refl _⟩
  refine RW_d (fun v77 => [(.agg #[(Fl r1), (Fl r3), (Fl r5), (Fl r7), (Fl r9), (Fl r11)]), (Fl k), (Pt b14 0), Ud, (Pt b21 0), (Bo false), (Pt b48 0), (.agg #[(Fl r1), (Fl r3), (Fl r5), (Fl r7), (Fl r9), (Fl r11)]), (Bo (isBox A_b)), (Bo (!(isBox A_b))), Ud, (Fl k), (Fl k), (Fl k), (.agg #[(Fl k), (Fl k), (Fl k)]), v66, v67, v68, v69, v70, v71, v72, v73, v74, v75, v76, v77]) rfl (fun _ => rfl) (fun u hu hF => ?_) (fun v77 => ?_)
  · have h24_ : ∃ cs_1 : List Value, v75 = (.tuple #[(.agg cs_1.toArray), (Bo (isBox (Bx.mk (vsub A_b.lo (V3.mk (cf .f32 k) (cf .f32 k) (cf .f32 k))) (vadd A_b.hi (V3.mk (cf .f32 k) (cf .f32 k) (cf .f32 k))))))]) ∧ RBx w (gvB (isBox (Bx.mk (vsub A_b.lo (V3.mk (cf .f32 k) (cf .f32 k) (cf .f32 k))) (vadd A_b.hi (V3.mk (cf .f32 k) (cf .f32 k) (cf .f32 k))))) (Bx.mk (vsub A_b.lo (V3.mk (cf .f32 k) (cf .f32 k) (cf .f32 k))) (vadd A_b.hi (V3.mk (cf .f32 k) (cf .f32 k) (cf .f32 k))))) cs_1 := hF.1
    clear hF
    obtain ⟨_, rfl, ⟨r24_1, r24_3, r24_5, r24_7, r24_9, r24_11, rfl, h24_2, h24_4, h24_6, h24_8, h24_10, h24_12⟩⟩ := h24_
    refine doesG_un rfl ?_
    refine (does_extract (vs := #[(.agg #[(Fl r24_1), (Fl r24_3), (Fl r24_5), (Fl r24_7), (Fl r24_9), (Fl r24_11)]), (Bo (isBox (Bx.mk (vsub A_b.lo (V3.mk (cf .f32 k) (cf .f32 k) (cf .f32 k))) (vadd A_b.hi (V3.mk (cf .f32 k) (cf .f32 k) (cf .f32 k))))))]) (u := (Bo (isBox (Bx.mk (vsub A_b.lo (V3.mk (cf .f32 k) (cf .f32 k) (cf .f32 k))) (vadd A_b.hi (V3.mk (cf .f32 k) (cf .f32 k) (cf .f32 k))))))) (ev rfl) rfl).mono ?_; rintro _ _ ⟨rfl, rfl⟩
    exact ⟨(by first | rfl | (show _ = _; simp only [hβ1, h24_2, h24_4, h24_6, h24_8, h24_10, h24_12])), Ext.refl _⟩
  refine RW_fin ?_; intro w78 E79 hP80
  obtain ⟨⟨⟨⟨⟨⟨⟨⟨⟨⟨⟨⟨-, -⟩, -⟩, -⟩, -⟩, -⟩, -⟩, -⟩, -⟩, -⟩, -⟩, q81⟩, q82⟩ := hP80
  have X83 := Ext.gr X65 E79
  have q81 : ∃ r_1 : Nat, ∃ r_2 : Nat, ∃ r_3 : Nat, ∃ r_4 : Nat, ∃ r_5 : Nat, ∃ r_6 : Nat, v76 = (.agg #[(Fl r_1), (Fl r_2), (Fl r_3), (Fl r_4), (Fl r_5), (Fl r_6)]) ∧ cf .f32 r_1 = (gvB (isBox (Bx.mk (vsub A_b.lo (V3.mk (cf .f32 k) (cf .f32 k) (cf .f32 k))) (vadd A_b.hi (V3.mk (cf .f32 k) (cf .f32 k) (cf .f32 k))))) (Bx.mk (vsub A_b.lo (V3.mk (cf .f32 k) (cf .f32 k) (cf .f32 k))) (vadd A_b.hi (V3.mk (cf .f32 k) (cf .f32 k) (cf .f32 k))))).lo.x ∧ cf .f32 r_2 = (gvB (isBox (Bx.mk (vsub A_b.lo (V3.mk (cf .f32 k) (cf .f32 k) (cf .f32 k))) (vadd A_b.hi (V3.mk (cf .f32 k) (cf .f32 k) (cf .f32 k))))) (Bx.mk (vsub A_b.lo (V3.mk (cf .f32 k) (cf .f32 k) (cf .f32 k))) (vadd A_b.hi (V3.mk (cf .f32 k) (cf .f32 k) (cf .f32 k))))).lo.y ∧ cf .f32 r_3 = (gvB (isBox (Bx.mk (vsub A_b.lo (V3.mk (cf .f32 k) (cf .f32 k) (cf .f32 k))) (vadd A_b.hi (V3.mk (cf .f32 k) (cf .f32 k) (cf .f32 k))))) (Bx.mk (vsub A_b.lo (V3.mk (cf .f32 k) (cf .f32 k) (cf .f32 k))) (vadd A_b.hi (V3.mk (cf .f32 k) (cf .f32 k) (cf .f32 k))))).lo.z ∧ cf .f32 r_4 = (gvB (isBox (Bx.mk (vsub A_b.lo (V3.mk (cf .f32 k) (cf .f32 k) (cf .f32 k))) (vadd A_b.hi (V3.mk (cf .f32 k) (cf .f32 k) (cf .f32 k))))) (Bx.mk (vsub A_b.lo (V3.mk (cf .f32 k) (cf .f32 k) (cf .f32 k))) (vadd A_b.hi (V3.mk (cf .f32 k) (cf .f32 k) (cf .f32 k))))).hi.x ∧ cf .f32 r_5 = (gvB (isBox (Bx.mk (vsub A_b.lo (V3.mk (cf .f32 k) (cf .f32 k) (cf .f32 k))) (vadd A_b.hi (V3.mk (cf .f32 k) (cf .f32 k) (cf .f32 k))))) (Bx.mk (vsub A_b.lo (V3.mk (cf .f32 k) (cf .f32 k) (cf .f32 k))) (vadd A_b.hi (V3.mk (cf .f32 k) (cf .f32 k) (cf .f32 k))))).hi.y ∧ cf .f32 r_6 = (gvB (isBox (Bx.mk (vsub A_b.lo (V3.mk (cf .f32 k) (cf .f32 k) (cf .f32 k))) (vadd A_b.hi (V3.mk (cf .f32 k) (cf .f32 k) (cf .f32 k))))) (Bx.mk (vsub A_b.lo (V3.mk (cf .f32 k) (cf .f32 k) (cf .f32 k))) (vadd A_b.hi (V3.mk (cf .f32 k) (cf .f32 k) (cf .f32 k))))).hi.z := q81
  obtain ⟨r84, r86, r88, r90, r92, r94, rfl, h85, h87, h89, h91, h93, h95⟩ := q81
  have q82 : v77 = (Bo β1) := q82
  obtain rfl := q82
  show wpList _ _ _ _ (fr [(.agg #[(Fl r1), (Fl r3), (Fl r5), (Fl r7), (Fl r9), (Fl r11)]), (Fl k), (Pt b14 0), Ud, (Pt b21 0), (Bo false), (Pt b48 0), (.agg #[(Fl r1), (Fl r3), (Fl r5), (Fl r7), (Fl r9), (Fl r11)]), (Bo (isBox A_b)), (Bo (!(isBox A_b))), Ud, (Fl k), (Fl k), (Fl k), (.agg #[(Fl k), (Fl k), (Fl k)]), v66, v67, v68, v69, v70, v71, v72, v73, v74, v75, (.agg #[(Fl r84), (Fl r86), (Fl r88), (Fl r90), (Fl r92), (Fl r94)]), (Bo β1)]) _
  refine seqn rfl rfl (does_store (n := 6) (cs := [(Fl 0), (Fl 0), (Fl 0), (Fl 0), (Fl 0), (Fl 0)]) (u := (.agg #[(Fl r84), (Fl r86), (Fl r88), (Fl r90), (Fl r92), (Fl r94)])) (ev rfl) (ev rfl) Try.sizeOf33 rfl (((((hB23.ext E31).ext E51).wr W57 (Nat.ne_of_lt n54)).ext E63).ext E79) (Nat.le_of_ble_eq_true rfl) rfl) ?_; rintro _ w98 ⟨rfl, W96, hB97⟩
  change Blk _ _ [(Fl r84), (Fl r86), (Fl r88), (Fl r90), (Fl r92), (Fl r94)] at hB97
  have X99 := Below.wr X83 W96 g27
  refine q_is (l' := [(.agg #[(Fl r1), (Fl r3), (Fl r5), (Fl r7), (Fl r9), (Fl r11)]), (Fl k), (Pt b14 0), Ud, (Pt b21 0), (Bo β1), (Pt b48 0), (.agg #[(Fl r1), (Fl r3), (Fl r5), (Fl r7), (Fl r9), (Fl r11)]), (Bo (isBox A_b)), (Bo (!(isBox A_b))), Ud, (Fl k), (Fl k), (Fl k), (.agg #[(Fl k), (Fl k), (Fl k)]), v66, v67, v68, v69, v70, v71, v72, v73, v74, v75, (.agg #[(Fl r84), (Fl r86), (Fl r88), (Fl r90), (Fl r92), (Fl r94)]), (Bo β1)]) rfl rfl (does_assign (u := (Bo β1)) (ev rfl)) rfl ?_
  refine wpList_nil (hK61 _ _ ?_)
  refine wp_ret ?_
  refine ret_val (v := (.tuple #[(.agg #[(Fl r84), (Fl r86), (Fl r88), (Fl r90), (Fl r92), (Fl r94)]), (Bo β1)])) (res_CT rfl (slot rfl) (run_loadAgg (cs := [(Fl r84), (Fl r86), (Fl r88), (Fl r90), (Fl r92), (Fl r94)]) Try.isAgg33 Try.sizeOf33 (Blk.cells hB97) rfl) (slot rfl)) X99 ?_
  try simp only [h2, h4, h6, h8, h10, h12, hβ1, h85, h87, h89, h91, h93, h95] at c34
  have x100 : (growOk A_b (cf .f32 k)) = β1 := by first | rfl | (simp only [growOk, growB, gvB_t, gvB_f, zB, zV, Bool.true_and, Bool.false_and, Bool.and_true, Bool.and_false, Bool.not_eq_true', Bool.not_eq_false', h2, h4, h6, h8, h10, h12, hβ1, h85, h87, h89, h91, h93, h95, c34]; done) | (simp [growOk, growB, gvB_t, gvB_f, zB, zV, Bool.true_and, Bool.false_and, Bool.and_true, Bool.and_false, Bool.not_eq_true', Bool.not_eq_false', h2, h4, h6, h8, h10, h12, hβ1, h85, h87, h89, h91, h93, h95, c34]; done) | (revert c34; simp +contextual [growOk, growB, gvB_t, gvB_f, zB, zV, Bool.true_and, Bool.false_and, Bool.and_true, Bool.and_false, Bool.not_eq_true', Bool.not_eq_false', h2, h4, h6, h8, h10, h12, hβ1, h85, h87, h89, h91, h93, h95]; done) | (rcases c34' with hh | hh <;> simp only [hh, growOk, growB, gvB_t, gvB_f, zB, zV, Bool.true_and, Bool.false_and, Bool.and_true, Bool.and_false, Bool.not_eq_true', Bool.not_eq_false', h2, h4, h6, h8, h10, h12, hβ1, h85, h87, h89, h91, h93, h95, c34]; done)
  have x101 : cf .f32 r84 = (gvB (growOk A_b (cf .f32 k)) (growB A_b (cf .f32 k))).lo.x := by first | rfl | (simp only [growOk, growB, gvB_t, gvB_f, zB, zV, Bool.true_and, Bool.false_and, Bool.and_true, Bool.and_false, Bool.not_eq_true', Bool.not_eq_false', h2, h4, h6, h8, h10, h12, hβ1, h85, h87, h89, h91, h93, h95, c34]; done) | (simp [growOk, growB, gvB_t, gvB_f, zB, zV, Bool.true_and, Bool.false_and, Bool.and_true, Bool.and_false, Bool.not_eq_true', Bool.not_eq_false', h2, h4, h6, h8, h10, h12, hβ1, h85, h87, h89, h91, h93, h95, c34]; done) | (revert c34; simp +contextual [growOk, growB, gvB_t, gvB_f, zB, zV, Bool.true_and, Bool.false_and, Bool.and_true, Bool.and_false, Bool.not_eq_true', Bool.not_eq_false', h2, h4, h6, h8, h10, h12, hβ1, h85, h87, h89, h91, h93, h95]; done) | (rcases c34' with hh | hh <;> simp only [hh, growOk, growB, gvB_t, gvB_f, zB, zV, Bool.true_and, Bool.false_and, Bool.and_true, Bool.and_false, Bool.not_eq_true', Bool.not_eq_false', h2, h4, h6, h8, h10, h12, hβ1, h85, h87, h89, h91, h93, h95, c34]; done)
  have x102 : cf .f32 r86 = (gvB (growOk A_b (cf .f32 k)) (growB A_b (cf .f32 k))).lo.y := by first | rfl | (simp only [growOk, growB, gvB_t, gvB_f, zB, zV, Bool.true_and, Bool.false_and, Bool.and_true, Bool.and_false, Bool.not_eq_true', Bool.not_eq_false', h2, h4, h6, h8, h10, h12, hβ1, h85, h87, h89, h91, h93, h95, c34]; done) | (simp [growOk, growB, gvB_t, gvB_f, zB, zV, Bool.true_and, Bool.false_and, Bool.and_true, Bool.and_false, Bool.not_eq_true', Bool.not_eq_false', h2, h4, h6, h8, h10, h12, hβ1, h85, h87, h89, h91, h93, h95, c34]; done) | (revert c34; simp +contextual [growOk, growB, gvB_t, gvB_f, zB, zV, Bool.true_and, Bool.false_and, Bool.and_true, Bool.and_false, Bool.not_eq_true', Bool.not_eq_false', h2, h4, h6, h8, h10, h12, hβ1, h85, h87, h89, h91, h93, h95]; done) | (rcases c34' with hh | hh <;> simp only [hh, growOk, growB, gvB_t, gvB_f, zB, zV, Bool.true_and, Bool.false_and, Bool.and_true, Bool.and_false, Bool.not_eq_true', Bool.not_eq_false', h2, h4, h6, h8, h10, h12, hβ1, h85, h87, h89, h91, h93, h95, c34]; done)
  have x103 : cf .f32 r88 = (gvB (growOk A_b (cf .f32 k)) (growB A_b (cf .f32 k))).lo.z := by first | rfl | (simp only [growOk, growB, gvB_t, gvB_f, zB, zV, Bool.true_and, Bool.false_and, Bool.and_true, Bool.and_false, Bool.not_eq_true', Bool.not_eq_false', h2, h4, h6, h8, h10, h12, hβ1, h85, h87, h89, h91, h93, h95, c34]; done) | (simp [growOk, growB, gvB_t, gvB_f, zB, zV, Bool.true_and, Bool.false_and, Bool.and_true, Bool.and_false, Bool.not_eq_true', Bool.not_eq_false', h2, h4, h6, h8, h10, h12, hβ1, h85, h87, h89, h91, h93, h95, c34]; done) | (revert c34; simp +contextual [growOk, growB, gvB_t, gvB_f, zB, zV, Bool.true_and, Bool.false_and, Bool.and_true, Bool.and_false, Bool.not_eq_true', Bool.not_eq_false', h2, h4, h6, h8, h10, h12, hβ1, h85, h87, h89, h91, h93, h95]; done) | (rcases c34' with hh | hh <;> simp only [hh, growOk, growB, gvB_t, gvB_f, zB, zV, Bool.true_and, Bool.false_and, Bool.and_true, Bool.and_false, Bool.not_eq_true', Bool.not_eq_false', h2, h4, h6, h8, h10, h12, hβ1, h85, h87, h89, h91, h93, h95, c34]; done)
  have x104 : cf .f32 r90 = (gvB (growOk A_b (cf .f32 k)) (growB A_b (cf .f32 k))).hi.x := by first | rfl | (simp only [growOk, growB, gvB_t, gvB_f, zB, zV, Bool.true_and, Bool.false_and, Bool.and_true, Bool.and_false, Bool.not_eq_true', Bool.not_eq_false', h2, h4, h6, h8, h10, h12, hβ1, h85, h87, h89, h91, h93, h95, c34]; done) | (simp [growOk, growB, gvB_t, gvB_f, zB, zV, Bool.true_and, Bool.false_and, Bool.and_true, Bool.and_false, Bool.not_eq_true', Bool.not_eq_false', h2, h4, h6, h8, h10, h12, hβ1, h85, h87, h89, h91, h93, h95, c34]; done) | (revert c34; simp +contextual [growOk, growB, gvB_t, gvB_f, zB, zV, Bool.true_and, Bool.false_and, Bool.and_true, Bool.and_false, Bool.not_eq_true', Bool.not_eq_false', h2, h4, h6, h8, h10, h12, hβ1, h85, h87, h89, h91, h93, h95]; done) | (rcases c34' with hh | hh <;> simp only [hh, growOk, growB, gvB_t, gvB_f, zB, zV, Bool.true_and, Bool.false_and, Bool.and_true, Bool.and_false, Bool.not_eq_true', Bool.not_eq_false', h2, h4, h6, h8, h10, h12, hβ1, h85, h87, h89, h91, h93, h95, c34]; done)
  have x105 : cf .f32 r92 = (gvB (growOk A_b (cf .f32 k)) (growB A_b (cf .f32 k))).hi.y := by first | rfl | (simp only [growOk, growB, gvB_t, gvB_f, zB, zV, Bool.true_and, Bool.false_and, Bool.and_true, Bool.and_false, Bool.not_eq_true', Bool.not_eq_false', h2, h4, h6, h8, h10, h12, hβ1, h85, h87, h89, h91, h93, h95, c34]; done) | (simp [growOk, growB, gvB_t, gvB_f, zB, zV, Bool.true_and, Bool.false_and, Bool.and_true, Bool.and_false, Bool.not_eq_true', Bool.not_eq_false', h2, h4, h6, h8, h10, h12, hβ1, h85, h87, h89, h91, h93, h95, c34]; done) | (revert c34; simp +contextual [growOk, growB, gvB_t, gvB_f, zB, zV, Bool.true_and, Bool.false_and, Bool.and_true, Bool.and_false, Bool.not_eq_true', Bool.not_eq_false', h2, h4, h6, h8, h10, h12, hβ1, h85, h87, h89, h91, h93, h95]; done) | (rcases c34' with hh | hh <;> simp only [hh, growOk, growB, gvB_t, gvB_f, zB, zV, Bool.true_and, Bool.false_and, Bool.and_true, Bool.and_false, Bool.not_eq_true', Bool.not_eq_false', h2, h4, h6, h8, h10, h12, hβ1, h85, h87, h89, h91, h93, h95, c34]; done)
  have x106 : cf .f32 r94 = (gvB (growOk A_b (cf .f32 k)) (growB A_b (cf .f32 k))).hi.z := by first | rfl | (simp only [growOk, growB, gvB_t, gvB_f, zB, zV, Bool.true_and, Bool.false_and, Bool.and_true, Bool.and_false, Bool.not_eq_true', Bool.not_eq_false', h2, h4, h6, h8, h10, h12, hβ1, h85, h87, h89, h91, h93, h95, c34]; done) | (simp [growOk, growB, gvB_t, gvB_f, zB, zV, Bool.true_and, Bool.false_and, Bool.and_true, Bool.and_false, Bool.not_eq_true', Bool.not_eq_false', h2, h4, h6, h8, h10, h12, hβ1, h85, h87, h89, h91, h93, h95, c34]; done) | (revert c34; simp +contextual [growOk, growB, gvB_t, gvB_f, zB, zV, Bool.true_and, Bool.false_and, Bool.and_true, Bool.and_false, Bool.not_eq_true', Bool.not_eq_false', h2, h4, h6, h8, h10, h12, hβ1, h85, h87, h89, h91, h93, h95]; done) | (rcases c34' with hh | hh <;> simp only [hh, growOk, growB, gvB_t, gvB_f, zB, zV, Bool.true_and, Bool.false_and, Bool.and_true, Bool.and_false, Bool.not_eq_true', Bool.not_eq_false', h2, h4, h6, h8, h10, h12, hβ1, h85, h87, h89, h91, h93, h95, c34]; done)
  exact ⟨[(Fl r84), (Fl r86), (Fl r88), (Fl r90), (Fl r92), (Fl r94)], (by first | rfl | rw [x100]), ⟨r84, r86, r88, r90, r92, r94, rfl, x101, x102, x103, x104, x105, x106⟩⟩

/- laws.sameFloat -/
theorem c_laws_sameFloat (x : Nat) (y : Nat) (w : World) : Gives Try.prog 56 #[(Fd x), (Fd y)] w (fun v w' => v = (Bo (sameF (cf .f64 x) (cf .f64 y)))) := by
  refine enter [(Fd x), (Fd y), Ud, Ud, Ud, Ud, Ud, Ud, Ud, Ud, Ud, Ud, Ud, Ud, Ud, Ud, Ud, Ud, Ud, Ud, Ud, Ud, Ud, Ud, Ud, Ud, Ud, Ud, Ud, Ud, Ud, Ud, Ud, Ud, Ud, Ud, Ud] Try.func56 rfl Try.ntmps56 rfl ?_
  refine wp_seq_k fun K1 hK1 => ?_
  refine wp_region_lit ?_
  refine q_is (l' := [(Fd x), (Fd y), Ud, Ud, (Bo false), Ud, Ud, Ud, Ud, Ud, Ud, Ud, Ud, Ud, Ud, Ud, Ud, Ud, Ud, Ud, Ud, Ud, Ud, Ud, Ud, Ud, Ud, Ud, Ud, Ud, Ud, Ud, Ud, Ud, Ud, Ud, Ud]) rfl rfl (does_assign (u := (Bo false)) (ev rfl)) rfl ?_
  refine wpList_nil (hK1 _ _ ?_)
  refine wp_seq_k fun K2 hK2 => ?_
  refine wp_seq_k fun K3 hK3 => ?_
  obtain ⟨β1, hβ1⟩ : ∃ b : Bool, b = (fcmp .neq (ford .f64 (cf .f64 x) (cf .f64 x))) := ⟨_, rfl⟩
  obtain ⟨β2, hβ2⟩ : ∃ b : Bool, b = (fcmp .neq (ford .f64 (cf .f64 y) (cf .f64 y))) := ⟨_, rfl⟩
  refine region_text (
    [Fact.pure [] (fun v => v = (Fd x)),
    Fact.pure [] (fun v => v = (Fd x)),
    Fact.pure [5, 6] (fun v => v = (Bo β1)),
    Fact.pure [7] (fun v => v = (Bo β1)),
    Fact.pure [8] (fun v => β1 = false → v = (Fd y)),
    Fact.pure [8] (fun v => β1 = false → v = (Fd y)),
    Fact.pure [9, 10, 8] (fun v => β1 = false → v = (Bo β2)),
    Fact.pure [8, 11] (fun v => v = (Bo (β1 || β2)))]) (by simp [Fact.pure, Fact.mem]) ?_
  refine RW_d (fun v4 => [(Fd x), (Fd y), Ud, Ud, (Bo false), v4, Ud, Ud, Ud, Ud, Ud, Ud, Ud, Ud, Ud, Ud, Ud, Ud, Ud, Ud, Ud, Ud, Ud, Ud, Ud, Ud, Ud, Ud, Ud, Ud, Ud, Ud, Ud, Ud, Ud, Ud, Ud]) rfl (fun _ => rfl) (fun u hu hF => ?_) (fun v4 => ?_)
  · clear hF
    refine doesG_un rfl ?_
    refine (does_move (u := (Fd x)) (ev rfl)).mono ?_; rintro _ _ ⟨rfl, rfl⟩
    exact ⟨rfl, Ext.refl _⟩
  refine RW_d (fun v5 => [(Fd x), (Fd y), Ud, Ud, (Bo false), v4, v5, Ud, Ud, Ud, Ud, Ud, Ud, Ud, Ud, Ud, Ud, Ud, Ud, Ud, Ud, Ud, Ud, Ud, Ud, Ud, Ud, Ud, Ud, Ud, Ud, Ud, Ud, Ud, Ud, Ud, Ud]) rfl (fun _ => rfl) (fun u hu hF => ?_) (fun v5 => ?_)
  · clear hF
    refine doesG_un rfl ?_
    refine (does_move (u := (Fd x)) (ev rfl)).mono ?_; rintro _ _ ⟨rfl, rfl⟩
    exact ⟨rfl, Ext.refl _⟩
  refine RW_d (fun v6 => [(Fd x), (Fd y), Ud, Ud, (Bo false), v4, v5, v6, Ud, Ud, Ud, Ud, Ud, Ud, Ud, Ud, Ud, Ud, Ud, Ud, Ud, Ud, Ud, Ud, Ud, Ud, Ud, Ud, Ud, Ud, Ud, Ud, Ud, Ud, Ud, Ud, Ud]) rfl (fun _ => rfl) (fun u hu hF => ?_) (fun v6 => ?_)
  · have h5_ : v4 = (Fd x) := hF.1
    have h6_ : v5 = (Fd x) := hF.2.1
    clear hF
    obtain rfl := h5_
    obtain rfl := h6_
    refine doesG_un rfl ?_
    refine (does_fcmp (.inr (.inl rfl)) (ev rfl) (ev rfl)).mono ?_; rintro _ _ ⟨rfl, rfl⟩
    exact ⟨(by first | rfl | (show _ = _; simp only [hβ1])), Ext.refl _⟩
  refine RW_d (fun v7 => [(Fd x), (Fd y), Ud, Ud, (Bo false), v4, v5, v6, v7, Ud, Ud, Ud, Ud, Ud, Ud, Ud, Ud, Ud, Ud, Ud, Ud, Ud, Ud, Ud, Ud, Ud, Ud, Ud, Ud, Ud, Ud, Ud, Ud, Ud, Ud, Ud, Ud]) rfl (fun _ => rfl) (fun u hu hF => ?_) (fun v7 => ?_)
  · have h7_ : v6 = (Bo β1) := hF.1
    clear hF
    obtain rfl := h7_
    refine doesG_un rfl ?_
    refine (does_move (u := (Bo β1)) (ev rfl)).mono ?_; rintro _ _ ⟨rfl, rfl⟩
    exact ⟨rfl, Ext.refl _⟩
  refine RW_d (fun v8 => [(Fd x), (Fd y), Ud, Ud, (Bo false), v4, v5, v6, v7, v8, Ud, Ud, Ud, Ud, Ud, Ud, Ud, Ud, Ud, Ud, Ud, Ud, Ud, Ud, Ud, Ud, Ud, Ud, Ud, Ud, Ud, Ud, Ud, Ud, Ud, Ud, Ud]) rfl (fun _ => rfl) (fun u hu hF => ?_) (fun v8 => ?_)
  · have h8_ : v7 = (Bo β1) := hF.1
    clear hF
    obtain rfl := h8_
    refine doesG_g (b := β1) rfl (yld rfl rfl) (fun hg => ?_) (fun hg => ⟨fun h => absurd h hg, Ext.refl _⟩)
    refine (does_move (u := (Fd y)) (ev rfl)).mono ?_; rintro _ _ ⟨rfl, rfl⟩
    exact ⟨fun _ => rfl, Ext.refl _⟩
  refine RW_d (fun v9 => [(Fd x), (Fd y), Ud, Ud, (Bo false), v4, v5, v6, v7, v8, v9, Ud, Ud, Ud, Ud, Ud, Ud, Ud, Ud, Ud, Ud, Ud, Ud, Ud, Ud, Ud, Ud, Ud, Ud, Ud, Ud, Ud, Ud, Ud, Ud, Ud, Ud]) rfl (fun _ => rfl) (fun u hu hF => ?_) (fun v9 => ?_)
  · have h8_ : v7 = (Bo β1) := hF.1
    clear hF
    obtain rfl := h8_
    refine doesG_g (b := β1) rfl (yld rfl rfl) (fun hg => ?_) (fun hg => ⟨fun h => absurd h hg, Ext.refl _⟩)
    refine (does_move (u := (Fd y)) (ev rfl)).mono ?_; rintro _ _ ⟨rfl, rfl⟩
    exact ⟨fun _ => rfl, Ext.refl _⟩
  refine RW_d (fun v10 => [(Fd x), (Fd y), Ud, Ud, (Bo false), v4, v5, v6, v7, v8, v9, v10, Ud, Ud, Ud, Ud, Ud, Ud, Ud, Ud, Ud, Ud, Ud, Ud, Ud, Ud, Ud, Ud, Ud, Ud, Ud, Ud, Ud, Ud, Ud, Ud, Ud]) rfl (fun _ => rfl) (fun u hu hF => ?_) (fun v10 => ?_)
  · have h9_ : β1 = false → v8 = (Fd y) := hF.1
    have h10_ : β1 = false → v9 = (Fd y) := hF.2.1
    have h8_ : v7 = (Bo β1) := hF.2.2.1
    clear hF
    obtain rfl := h8_
    refine doesG_g (b := β1) rfl (yld rfl rfl) (fun hg => ?_) (fun hg => ⟨fun h => absurd h hg, Ext.refl _⟩)
    obtain rfl := h9_ hg
    obtain rfl := h10_ hg
    refine (does_fcmp (.inr (.inl rfl)) (ev rfl) (ev rfl)).mono ?_; rintro _ _ ⟨rfl, rfl⟩
    exact ⟨fun _ => (by first | rfl | (show _ = _; simp only [hβ2])), Ext.refl _⟩
  refine RW_d (fun v11 => [(Fd x), (Fd y), Ud, Ud, (Bo false), v4, v5, v6, v7, v8, v9, v10, v11, Ud, Ud, Ud, Ud, Ud, Ud, Ud, Ud, Ud, Ud, Ud, Ud, Ud, Ud, Ud, Ud, Ud, Ud, Ud, Ud, Ud, Ud, Ud, Ud]) rfl (fun _ => rfl) (fun u hu hF => ?_) (fun v11 => ?_)
  · have h8_ : v7 = (Bo β1) := hF.1
    have h11_ : β1 = false → v10 = (Bo β2) := hF.2.1
    clear hF
    obtain rfl := h8_
    refine doesG_un rfl ((does_pick (b := β1) (ev rfl) (ev rfl) (ev rfl)).mono ?_); rintro _ _ ⟨rfl, rfl⟩; refine ⟨?_, Ext.refl _⟩; skip
    cases hbb : β1 <;> simp [hbb] at h11_ ⊢
    all_goals (first | rfl | (subst h11_; rfl) | simp_all)
  refine RW_fin ?_; intro w12 E13 hP14
  obtain ⟨⟨⟨⟨⟨⟨⟨⟨-, -⟩, -⟩, -⟩, -⟩, -⟩, -⟩, -⟩, q15⟩ := hP14
  have X16 := Ext.gr (Ext.refl w) E13
  have q15 : v11 = (Bo (β1 || β2)) := q15
  obtain rfl := q15
  show wpList _ _ _ _ (fr [(Fd x), (Fd y), Ud, Ud, (Bo false), v4, v5, v6, v7, v8, v9, v10, (Bo (β1 || β2)), Ud, Ud, Ud, Ud, Ud, Ud, Ud, Ud, Ud, Ud, Ud, Ud, Ud, Ud, Ud, Ud, Ud, Ud, Ud, Ud, Ud, Ud, Ud, Ud]) _
  refine wpList_nil (hK3 _ _ ?_)
  refine wp_cond_split (t := β1 || β2) (ev rfl) (fun c17 => ?_) (fun c17 => ?_)
  · have c17' := c17
    (try simp only [hβ1, hβ2] at c17')
    (try simp only [icmp, Bool.and_eq_true, Bool.or_eq_true, Bool.and_eq_false_iff, Bool.or_eq_false_iff, Bool.not_eq_true', Bool.not_eq_false', decide_eq_true_eq, decide_eq_false_iff_not, beq_iff_eq, bne_iff_ne, beq_eq_false_iff_ne, bne_eq_false_iff_eq] at c17')
    refine wp_seq_k fun K18 hK18 => ?_
    obtain ⟨β3, hβ3⟩ : ∃ b : Bool, b = (fcmp .neq (ford .f64 (cf .f64 x) (cf .f64 x))) := ⟨_, rfl⟩
    obtain ⟨β4, hβ4⟩ : ∃ b : Bool, b = (fcmp .neq (ford .f64 (cf .f64 y) (cf .f64 y))) := ⟨_, rfl⟩
    refine region_text (
      [Fact.pure [] (fun v => v = (Fd x)),
    Fact.pure [] (fun v => v = (Fd x)),
    Fact.pure [13, 14] (fun v => v = (Bo β3)),
    Fact.pure [15] (fun v => v = (Bo β3)),
    Fact.pure [16] (fun v => β3 = true → v = (Fd y)),
    Fact.pure [16] (fun v => β3 = true → v = (Fd y)),
    Fact.pure [17, 18, 16] (fun v => β3 = true → v = (Bo β4)),
    Fact.pure [16, 19] (fun v => v = (Bo (β3 && β4)))]) (by simp [Fact.pure, Fact.mem]) ?_
    refine RW_d (fun v19 => [(Fd x), (Fd y), Ud, Ud, (Bo false), v4, v5, v6, v7, v8, v9, v10, (Bo (β1 || β2)), v19, Ud, Ud, Ud, Ud, Ud, Ud, Ud, Ud, Ud, Ud, Ud, Ud, Ud, Ud, Ud, Ud, Ud, Ud, Ud, Ud, Ud, Ud, Ud]) rfl (fun _ => rfl) (fun u hu hF => ?_) (fun v19 => ?_)
    · clear hF
      refine doesG_un rfl ?_
      refine (does_move (u := (Fd x)) (ev rfl)).mono ?_; rintro _ _ ⟨rfl, rfl⟩
      exact ⟨rfl, Ext.refl _⟩
    refine RW_d (fun v20 => [(Fd x), (Fd y), Ud, Ud, (Bo false), v4, v5, v6, v7, v8, v9, v10, (Bo (β1 || β2)), v19, v20, Ud, Ud, Ud, Ud, Ud, Ud, Ud, Ud, Ud, Ud, Ud, Ud, Ud, Ud, Ud, Ud, Ud, Ud, Ud, Ud, Ud, Ud]) rfl (fun _ => rfl) (fun u hu hF => ?_) (fun v20 => ?_)
    · clear hF
      refine doesG_un rfl ?_
      refine (does_move (u := (Fd x)) (ev rfl)).mono ?_; rintro _ _ ⟨rfl, rfl⟩
      exact ⟨rfl, Ext.refl _⟩
    refine RW_d (fun v21 => [(Fd x), (Fd y), Ud, Ud, (Bo false), v4, v5, v6, v7, v8, v9, v10, (Bo (β1 || β2)), v19, v20, v21, Ud, Ud, Ud, Ud, Ud, Ud, Ud, Ud, Ud, Ud, Ud, Ud, Ud, Ud, Ud, Ud, Ud, Ud, Ud, Ud, Ud]) rfl (fun _ => rfl) (fun u hu hF => ?_) (fun v21 => ?_)
    · have h13_ : v19 = (Fd x) := hF.1
      have h14_ : v20 = (Fd x) := hF.2.1
      clear hF
      obtain rfl := h13_
      obtain rfl := h14_
      refine doesG_un rfl ?_
      refine (does_fcmp (.inr (.inl rfl)) (ev rfl) (ev rfl)).mono ?_; rintro _ _ ⟨rfl, rfl⟩
      exact ⟨(by first | rfl | (show _ = _; simp only [hβ3])), Ext.refl _⟩
    refine RW_d (fun v22 => [(Fd x), (Fd y), Ud, Ud, (Bo false), v4, v5, v6, v7, v8, v9, v10, (Bo (β1 || β2)), v19, v20, v21, v22, Ud, Ud, Ud, Ud, Ud, Ud, Ud, Ud, Ud, Ud, Ud, Ud, Ud, Ud, Ud, Ud, Ud, Ud, Ud, Ud]) rfl (fun _ => rfl) (fun u hu hF => ?_) (fun v22 => ?_)
    · have h15_ : v21 = (Bo β3) := hF.1
      clear hF
      obtain rfl := h15_
      refine doesG_un rfl ?_
      refine (does_move (u := (Bo β3)) (ev rfl)).mono ?_; rintro _ _ ⟨rfl, rfl⟩
      exact ⟨rfl, Ext.refl _⟩
    refine RW_d (fun v23 => [(Fd x), (Fd y), Ud, Ud, (Bo false), v4, v5, v6, v7, v8, v9, v10, (Bo (β1 || β2)), v19, v20, v21, v22, v23, Ud, Ud, Ud, Ud, Ud, Ud, Ud, Ud, Ud, Ud, Ud, Ud, Ud, Ud, Ud, Ud, Ud, Ud, Ud]) rfl (fun _ => rfl) (fun u hu hF => ?_) (fun v23 => ?_)
    · have h16_ : v22 = (Bo β3) := hF.1
      clear hF
      obtain rfl := h16_
      refine doesG_g (b := β3) rfl (yld rfl rfl) (fun hg => ?_) (fun hg => ⟨fun h => absurd h hg, Ext.refl _⟩)
      refine (does_move (u := (Fd y)) (ev rfl)).mono ?_; rintro _ _ ⟨rfl, rfl⟩
      exact ⟨fun _ => rfl, Ext.refl _⟩
    refine RW_d (fun v24 => [(Fd x), (Fd y), Ud, Ud, (Bo false), v4, v5, v6, v7, v8, v9, v10, (Bo (β1 || β2)), v19, v20, v21, v22, v23, v24, Ud, Ud, Ud, Ud, Ud, Ud, Ud, Ud, Ud, Ud, Ud, Ud, Ud, Ud, Ud, Ud, Ud, Ud]) rfl (fun _ => rfl) (fun u hu hF => ?_) (fun v24 => ?_)
    · have h16_ : v22 = (Bo β3) := hF.1
      clear hF
      obtain rfl := h16_
      refine doesG_g (b := β3) rfl (yld rfl rfl) (fun hg => ?_) (fun hg => ⟨fun h => absurd h hg, Ext.refl _⟩)
      refine (does_move (u := (Fd y)) (ev rfl)).mono ?_; rintro _ _ ⟨rfl, rfl⟩
      exact ⟨fun _ => rfl, Ext.refl _⟩
    refine RW_d (fun v25 => [(Fd x), (Fd y), Ud, Ud, (Bo false), v4, v5, v6, v7, v8, v9, v10, (Bo (β1 || β2)), v19, v20, v21, v22, v23, v24, v25, Ud, Ud, Ud, Ud, Ud, Ud, Ud, Ud, Ud, Ud, Ud, Ud, Ud, Ud, Ud, Ud, Ud]) rfl (fun _ => rfl) (fun u hu hF => ?_) (fun v25 => ?_)
    · have h17_ : β3 = true → v23 = (Fd y) := hF.1
      have h18_ : β3 = true → v24 = (Fd y) := hF.2.1
      have h16_ : v22 = (Bo β3) := hF.2.2.1
      clear hF
      obtain rfl := h16_
      refine doesG_g (b := β3) rfl (yld rfl rfl) (fun hg => ?_) (fun hg => ⟨fun h => absurd h hg, Ext.refl _⟩)
      obtain rfl := h17_ hg
      obtain rfl := h18_ hg
      refine (does_fcmp (.inr (.inl rfl)) (ev rfl) (ev rfl)).mono ?_; rintro _ _ ⟨rfl, rfl⟩
      exact ⟨fun _ => (by first | rfl | (show _ = _; simp only [hβ4])), Ext.refl _⟩
    refine RW_d (fun v26 => [(Fd x), (Fd y), Ud, Ud, (Bo false), v4, v5, v6, v7, v8, v9, v10, (Bo (β1 || β2)), v19, v20, v21, v22, v23, v24, v25, v26, Ud, Ud, Ud, Ud, Ud, Ud, Ud, Ud, Ud, Ud, Ud, Ud, Ud, Ud, Ud, Ud]) rfl (fun _ => rfl) (fun u hu hF => ?_) (fun v26 => ?_)
    · have h16_ : v22 = (Bo β3) := hF.1
      have h19_ : β3 = true → v25 = (Bo β4) := hF.2.1
      clear hF
      obtain rfl := h16_
      refine doesG_un rfl ((does_pick (b := β3) (ev rfl) (ev rfl) (ev rfl)).mono ?_); rintro _ _ ⟨rfl, rfl⟩; refine ⟨?_, Ext.refl _⟩; skip
      cases hbb : β3 <;> simp [hbb] at h19_ ⊢
      all_goals (first | rfl | (subst h19_; rfl) | simp_all)
    refine RW_fin ?_; intro w27 E28 hP29
    obtain ⟨⟨⟨⟨⟨⟨⟨⟨-, -⟩, -⟩, -⟩, -⟩, -⟩, -⟩, -⟩, q30⟩ := hP29
    have X31 := Ext.gr X16 E28
    have q30 : v26 = (Bo (β3 && β4)) := q30
    obtain rfl := q30
    show wpList _ _ _ _ (fr [(Fd x), (Fd y), Ud, Ud, (Bo false), v4, v5, v6, v7, v8, v9, v10, (Bo (β1 || β2)), v19, v20, v21, v22, v23, v24, v25, (Bo (β3 && β4)), Ud, Ud, Ud, Ud, Ud, Ud, Ud, Ud, Ud, Ud, Ud, Ud, Ud, Ud, Ud, Ud]) _
    refine q_is (l' := [(Fd x), (Fd y), Ud, Ud, (Bo (β3 && β4)), v4, v5, v6, v7, v8, v9, v10, (Bo (β1 || β2)), v19, v20, v21, v22, v23, v24, v25, (Bo (β3 && β4)), Ud, Ud, Ud, Ud, Ud, Ud, Ud, Ud, Ud, Ud, Ud, Ud, Ud, Ud, Ud, Ud]) rfl rfl (does_assign (u := (Bo (β3 && β4))) (ev rfl)) rfl ?_
    refine wpList_nil (hK18 _ _ ?_)
    refine wp_ret ?_
    dsimp only [Exit.then, Exit.inBlock]
    refine ret_val (v := (Bo (β3 && β4))) (res_T rfl (slot rfl)) X31 ?_
    try simp only [hβ1, hβ2, hβ3, hβ4] at c17
    have x32 : (sameF (cf .f64 x) (cf .f64 y)) = (β3 && β4) := by first | rfl | (simp only [sameF, hβ1, hβ2, hβ3, hβ4, c17]; done) | (simp [sameF, hβ1, hβ2, hβ3, hβ4, c17]; done) | (revert c17; simp +contextual [sameF, hβ1, hβ2, hβ3, hβ4]; done) | (rcases c17' with hh | hh <;> simp only [hh, sameF, hβ1, hβ2, hβ3, hβ4, c17]; done)
    exact (by first | rfl | rw [x32])
  have c17' := c17
  (try simp only [hβ1, hβ2] at c17')
  (try simp only [icmp, Bool.and_eq_true, Bool.or_eq_true, Bool.and_eq_false_iff, Bool.or_eq_false_iff, Bool.not_eq_true', Bool.not_eq_false', decide_eq_true_eq, decide_eq_false_iff_not, beq_iff_eq, bne_iff_ne, beq_eq_false_iff_ne, bne_eq_false_iff_eq] at c17')
  refine wp_skip (hK2 _ _ ?_)
  refine wp_seq_k fun K33 hK33 => ?_
  refine wp_seq_k fun K34 hK34 => ?_
  obtain ⟨β5, hβ5⟩ : ∃ b : Bool, b = (fcmp .eql (ford .f64 (cf .f64 x) (cf .f64 0))) := ⟨_, rfl⟩
  obtain ⟨β6, hβ6⟩ : ∃ b : Bool, b = (fcmp .eql (ford .f64 (cf .f64 y) (cf .f64 0))) := ⟨_, rfl⟩
  refine region_text (
    [Fact.pure [] (fun v => v = (Fd x)),
    Fact.pure [21] (fun v => v = (Bo β5)),
    Fact.pure [22] (fun v => v = (Bo β5)),
    Fact.pure [23] (fun v => β5 = true → v = (Fd y)),
    Fact.pure [24, 23] (fun v => β5 = true → v = (Bo β6)),
    Fact.pure [23, 25] (fun v => v = (Bo (β5 && β6)))]) (by simp [Fact.pure, Fact.mem]) ?_
  refine RW_d (fun v35 => [(Fd x), (Fd y), Ud, Ud, (Bo false), v4, v5, v6, v7, v8, v9, v10, (Bo (β1 || β2)), Ud, Ud, Ud, Ud, Ud, Ud, Ud, Ud, v35, Ud, Ud, Ud, Ud, Ud, Ud, Ud, Ud, Ud, Ud, Ud, Ud, Ud, Ud, Ud]) rfl (fun _ => rfl) (fun u hu hF => ?_) (fun v35 => ?_)
  · clear hF
    refine doesG_un rfl ?_
    refine (does_move (u := (Fd x)) (ev rfl)).mono ?_; rintro _ _ ⟨rfl, rfl⟩
    exact ⟨rfl, Ext.refl _⟩
  refine RW_d (fun v36 => [(Fd x), (Fd y), Ud, Ud, (Bo false), v4, v5, v6, v7, v8, v9, v10, (Bo (β1 || β2)), Ud, Ud, Ud, Ud, Ud, Ud, Ud, Ud, v35, v36, Ud, Ud, Ud, Ud, Ud, Ud, Ud, Ud, Ud, Ud, Ud, Ud, Ud, Ud]) rfl (fun _ => rfl) (fun u hu hF => ?_) (fun v36 => ?_)
  · have h21_ : v35 = (Fd x) := hF.1
    clear hF
    obtain rfl := h21_
    refine doesG_un rfl ?_
    refine (does_fcmp (.inl rfl) (ev rfl) (ev rfl)).mono ?_; rintro _ _ ⟨rfl, rfl⟩
    exact ⟨(by first | rfl | (show _ = _; simp only [hβ5])), Ext.refl _⟩
  refine RW_d (fun v37 => [(Fd x), (Fd y), Ud, Ud, (Bo false), v4, v5, v6, v7, v8, v9, v10, (Bo (β1 || β2)), Ud, Ud, Ud, Ud, Ud, Ud, Ud, Ud, v35, v36, v37, Ud, Ud, Ud, Ud, Ud, Ud, Ud, Ud, Ud, Ud, Ud, Ud, Ud]) rfl (fun _ => rfl) (fun u hu hF => ?_) (fun v37 => ?_)
  · have h22_ : v36 = (Bo β5) := hF.1
    clear hF
    obtain rfl := h22_
    refine doesG_un rfl ?_
    refine (does_move (u := (Bo β5)) (ev rfl)).mono ?_; rintro _ _ ⟨rfl, rfl⟩
    exact ⟨rfl, Ext.refl _⟩
  refine RW_d (fun v38 => [(Fd x), (Fd y), Ud, Ud, (Bo false), v4, v5, v6, v7, v8, v9, v10, (Bo (β1 || β2)), Ud, Ud, Ud, Ud, Ud, Ud, Ud, Ud, v35, v36, v37, v38, Ud, Ud, Ud, Ud, Ud, Ud, Ud, Ud, Ud, Ud, Ud, Ud]) rfl (fun _ => rfl) (fun u hu hF => ?_) (fun v38 => ?_)
  · have h23_ : v37 = (Bo β5) := hF.1
    clear hF
    obtain rfl := h23_
    refine doesG_g (b := β5) rfl (yld rfl rfl) (fun hg => ?_) (fun hg => ⟨fun h => absurd h hg, Ext.refl _⟩)
    refine (does_move (u := (Fd y)) (ev rfl)).mono ?_; rintro _ _ ⟨rfl, rfl⟩
    exact ⟨fun _ => rfl, Ext.refl _⟩
  refine RW_d (fun v39 => [(Fd x), (Fd y), Ud, Ud, (Bo false), v4, v5, v6, v7, v8, v9, v10, (Bo (β1 || β2)), Ud, Ud, Ud, Ud, Ud, Ud, Ud, Ud, v35, v36, v37, v38, v39, Ud, Ud, Ud, Ud, Ud, Ud, Ud, Ud, Ud, Ud, Ud]) rfl (fun _ => rfl) (fun u hu hF => ?_) (fun v39 => ?_)
  · have h24_ : β5 = true → v38 = (Fd y) := hF.1
    have h23_ : v37 = (Bo β5) := hF.2.1
    clear hF
    obtain rfl := h23_
    refine doesG_g (b := β5) rfl (yld rfl rfl) (fun hg => ?_) (fun hg => ⟨fun h => absurd h hg, Ext.refl _⟩)
    obtain rfl := h24_ hg
    refine (does_fcmp (.inl rfl) (ev rfl) (ev rfl)).mono ?_; rintro _ _ ⟨rfl, rfl⟩
    exact ⟨fun _ => (by first | rfl | (show _ = _; simp only [hβ6])), Ext.refl _⟩
  refine RW_d (fun v40 => [(Fd x), (Fd y), Ud, Ud, (Bo false), v4, v5, v6, v7, v8, v9, v10, (Bo (β1 || β2)), Ud, Ud, Ud, Ud, Ud, Ud, Ud, Ud, v35, v36, v37, v38, v39, v40, Ud, Ud, Ud, Ud, Ud, Ud, Ud, Ud, Ud, Ud]) rfl (fun _ => rfl) (fun u hu hF => ?_) (fun v40 => ?_)
  · have h23_ : v37 = (Bo β5) := hF.1
    have h25_ : β5 = true → v39 = (Bo β6) := hF.2.1
    clear hF
    obtain rfl := h23_
    refine doesG_un rfl ((does_pick (b := β5) (ev rfl) (ev rfl) (ev rfl)).mono ?_); rintro _ _ ⟨rfl, rfl⟩; refine ⟨?_, Ext.refl _⟩; skip
    cases hbb : β5 <;> simp [hbb] at h25_ ⊢
    all_goals (first | rfl | (subst h25_; rfl) | simp_all)
  refine RW_fin ?_; intro w41 E42 hP43
  obtain ⟨⟨⟨⟨⟨⟨-, -⟩, -⟩, -⟩, -⟩, -⟩, q44⟩ := hP43
  have X45 := Ext.gr X16 E42
  have q44 : v40 = (Bo (β5 && β6)) := q44
  obtain rfl := q44
  show wpList _ _ _ _ (fr [(Fd x), (Fd y), Ud, Ud, (Bo false), v4, v5, v6, v7, v8, v9, v10, (Bo (β1 || β2)), Ud, Ud, Ud, Ud, Ud, Ud, Ud, Ud, v35, v36, v37, v38, v39, (Bo (β5 && β6)), Ud, Ud, Ud, Ud, Ud, Ud, Ud, Ud, Ud, Ud]) _
  refine wpList_nil (hK34 _ _ ?_)
  refine wp_cond_split (t := β5 && β6) (ev rfl) (fun c46 => ?_) (fun c46 => ?_)
  · have c46' := c46
    (try simp only [hβ1, hβ2, hβ5, hβ6] at c46')
    (try simp only [icmp, Bool.and_eq_true, Bool.or_eq_true, Bool.and_eq_false_iff, Bool.or_eq_false_iff, Bool.not_eq_true', Bool.not_eq_false', decide_eq_true_eq, decide_eq_false_iff_not, beq_iff_eq, bne_iff_ne, beq_eq_false_iff_ne, bne_eq_false_iff_eq] at c46')
    refine wp_seq_k fun K47 hK47 => ?_
    refine wp_region_lit ?_
    refine q_is (l' := [(Fd x), (Fd y), Ud, Ud, (Bo false), v4, v5, v6, v7, v8, v9, v10, (Bo (β1 || β2)), Ud, Ud, Ud, Ud, Ud, Ud, Ud, Ud, v35, v36, v37, v38, v39, (Bo (β5 && β6)), (Fd x), Ud, Ud, Ud, Ud, Ud, Ud, Ud, Ud, Ud]) rfl rfl (does_move (u := (Fd x)) (ev rfl)) rfl ?_
    refine seqd rfl rfl (does_float (.inr (.inr (.inr rfl))) (ev rfl) (ev rfl)) ?_; rintro _ w51 ⟨r48, rfl, h49, E50⟩
    have X52 := Ext.gr X45 E50
    show wpList _ _ _ _ (fr [(Fd x), (Fd y), Ud, Ud, (Bo false), v4, v5, v6, v7, v8, v9, v10, (Bo (β1 || β2)), Ud, Ud, Ud, Ud, Ud, Ud, Ud, Ud, v35, v36, v37, v38, v39, (Bo (β5 && β6)), (Fd x), (Fd r48), Ud, Ud, Ud, Ud, Ud, Ud, Ud, Ud]) _
    refine q_is (l' := [(Fd x), (Fd y), Ud, Ud, (Bo false), v4, v5, v6, v7, v8, v9, v10, (Bo (β1 || β2)), Ud, Ud, Ud, Ud, Ud, Ud, Ud, Ud, v35, v36, v37, v38, v39, (Bo (β5 && β6)), (Fd x), (Fd r48), (Bo (fcmp .gtr (ford .f64 (cf .f64 r48) (cf .f64 0)))), Ud, Ud, Ud, Ud, Ud, Ud, Ud]) rfl rfl (does_fcmp (.inr (.inr (.inr (.inr (.inl rfl))))) (ev rfl) (ev rfl)) rfl ?_
    refine q_is (l' := [(Fd x), (Fd y), Ud, Ud, (Bo false), v4, v5, v6, v7, v8, v9, v10, (Bo (β1 || β2)), Ud, Ud, Ud, Ud, Ud, Ud, Ud, Ud, v35, v36, v37, v38, v39, (Bo (β5 && β6)), (Fd x), (Fd r48), (Bo (fcmp .gtr (ford .f64 (cf .f64 r48) (cf .f64 0)))), (Fd y), Ud, Ud, Ud, Ud, Ud, Ud]) rfl rfl (does_move (u := (Fd y)) (ev rfl)) rfl ?_
    refine seqd rfl rfl (does_float (.inr (.inr (.inr rfl))) (ev rfl) (ev rfl)) ?_; rintro _ w56 ⟨r53, rfl, h54, E55⟩
    have X57 := Ext.gr X52 E55
    show wpList _ _ _ _ (fr [(Fd x), (Fd y), Ud, Ud, (Bo false), v4, v5, v6, v7, v8, v9, v10, (Bo (β1 || β2)), Ud, Ud, Ud, Ud, Ud, Ud, Ud, Ud, v35, v36, v37, v38, v39, (Bo (β5 && β6)), (Fd x), (Fd r48), (Bo (fcmp .gtr (ford .f64 (cf .f64 r48) (cf .f64 0)))), (Fd y), (Fd r53), Ud, Ud, Ud, Ud, Ud]) _
    refine q_is (l' := [(Fd x), (Fd y), Ud, Ud, (Bo false), v4, v5, v6, v7, v8, v9, v10, (Bo (β1 || β2)), Ud, Ud, Ud, Ud, Ud, Ud, Ud, Ud, v35, v36, v37, v38, v39, (Bo (β5 && β6)), (Fd x), (Fd r48), (Bo (fcmp .gtr (ford .f64 (cf .f64 r48) (cf .f64 0)))), (Fd y), (Fd r53), (Bo (fcmp .gtr (ford .f64 (cf .f64 r53) (cf .f64 0)))), Ud, Ud, Ud, Ud]) rfl rfl (does_fcmp (.inr (.inr (.inr (.inr (.inl rfl))))) (ev rfl) (ev rfl)) rfl ?_
    refine q_is (l' := [(Fd x), (Fd y), Ud, Ud, (Bo false), v4, v5, v6, v7, v8, v9, v10, (Bo (β1 || β2)), Ud, Ud, Ud, Ud, Ud, Ud, Ud, Ud, v35, v36, v37, v38, v39, (Bo (β5 && β6)), (Fd x), (Fd r48), (Bo (fcmp .gtr (ford .f64 (cf .f64 r48) (cf .f64 0)))), (Fd y), (Fd r53), (Bo (fcmp .gtr (ford .f64 (cf .f64 r53) (cf .f64 0)))), (Bo ((fcmp .gtr (ford .f64 (cf .f64 r48) (cf .f64 0))) == (fcmp .gtr (ford .f64 (cf .f64 r53) (cf .f64 0))))), Ud, Ud, Ud]) rfl rfl (does_beq (p := (fcmp .gtr (ford .f64 (cf .f64 r48) (cf .f64 0)))) (q := (fcmp .gtr (ford .f64 (cf .f64 r53) (cf .f64 0)))) Try.underlying4 (ev rfl) (ev rfl)) rfl ?_
    refine q_is (l' := [(Fd x), (Fd y), Ud, Ud, (Bo ((fcmp .gtr (ford .f64 (cf .f64 r48) (cf .f64 0))) == (fcmp .gtr (ford .f64 (cf .f64 r53) (cf .f64 0))))), v4, v5, v6, v7, v8, v9, v10, (Bo (β1 || β2)), Ud, Ud, Ud, Ud, Ud, Ud, Ud, Ud, v35, v36, v37, v38, v39, (Bo (β5 && β6)), (Fd x), (Fd r48), (Bo (fcmp .gtr (ford .f64 (cf .f64 r48) (cf .f64 0)))), (Fd y), (Fd r53), (Bo (fcmp .gtr (ford .f64 (cf .f64 r53) (cf .f64 0)))), (Bo ((fcmp .gtr (ford .f64 (cf .f64 r48) (cf .f64 0))) == (fcmp .gtr (ford .f64 (cf .f64 r53) (cf .f64 0))))), Ud, Ud, Ud]) rfl rfl (does_assign (u := (Bo ((fcmp .gtr (ford .f64 (cf .f64 r48) (cf .f64 0))) == (fcmp .gtr (ford .f64 (cf .f64 r53) (cf .f64 0)))))) (ev rfl)) rfl ?_
    refine wpList_nil (hK47 _ _ ?_)
    refine wp_ret ?_
    dsimp only [Exit.then, Exit.inBlock]
    refine ret_val (v := (Bo ((fcmp .gtr (ford .f64 (cf .f64 r48) (cf .f64 0))) == (fcmp .gtr (ford .f64 (cf .f64 r53) (cf .f64 0)))))) (res_T rfl (slot rfl)) X57 ?_
    try simp only [hβ1, hβ2, hβ5, hβ6, h49, h54] at c17 c46
    have x58 : (sameF (cf .f64 x) (cf .f64 y)) = ((fcmp .gtr (ford .f64 (cf .f64 r48) (cf .f64 0))) == (fcmp .gtr (ford .f64 (cf .f64 r53) (cf .f64 0)))) := by first | rfl | (simp only [sameF, hβ1, hβ2, hβ5, hβ6, h49, h54, c17, c46]; done) | (simp [sameF, hβ1, hβ2, hβ5, hβ6, h49, h54, c17, c46]; done) | (revert c17 c46; simp +contextual [sameF, hβ1, hβ2, hβ5, hβ6, h49, h54]; done) | (rcases c17' with hh | hh <;> simp only [hh, sameF, hβ1, hβ2, hβ5, hβ6, h49, h54, c17, c46]; done) | (rcases c46' with hh | hh <;> simp only [hh, sameF, hβ1, hβ2, hβ5, hβ6, h49, h54, c17, c46]; done)
    exact (by first | rfl | rw [x58])
  have c46' := c46
  (try simp only [hβ1, hβ2, hβ5, hβ6] at c46')
  (try simp only [icmp, Bool.and_eq_true, Bool.or_eq_true, Bool.and_eq_false_iff, Bool.or_eq_false_iff, Bool.not_eq_true', Bool.not_eq_false', decide_eq_true_eq, decide_eq_false_iff_not, beq_iff_eq, bne_iff_ne, beq_eq_false_iff_ne, bne_eq_false_iff_eq] at c46')
  refine wp_skip (hK33 _ _ ?_)
  refine wp_seq_k fun K59 hK59 => ?_
  refine wp_region_lit ?_
  refine q_is (l' := [(Fd x), (Fd y), Ud, Ud, (Bo false), v4, v5, v6, v7, v8, v9, v10, (Bo (β1 || β2)), Ud, Ud, Ud, Ud, Ud, Ud, Ud, Ud, v35, v36, v37, v38, v39, (Bo (β5 && β6)), Ud, Ud, Ud, Ud, Ud, Ud, Ud, (Fd x), Ud, Ud]) rfl rfl (does_move (u := (Fd x)) (ev rfl)) rfl ?_
  refine q_is (l' := [(Fd x), (Fd y), Ud, Ud, (Bo false), v4, v5, v6, v7, v8, v9, v10, (Bo (β1 || β2)), Ud, Ud, Ud, Ud, Ud, Ud, Ud, Ud, v35, v36, v37, v38, v39, (Bo (β5 && β6)), Ud, Ud, Ud, Ud, Ud, Ud, Ud, (Fd x), (Fd y), Ud]) rfl rfl (does_move (u := (Fd y)) (ev rfl)) rfl ?_
  refine q_is (l' := [(Fd x), (Fd y), Ud, Ud, (Bo false), v4, v5, v6, v7, v8, v9, v10, (Bo (β1 || β2)), Ud, Ud, Ud, Ud, Ud, Ud, Ud, Ud, v35, v36, v37, v38, v39, (Bo (β5 && β6)), Ud, Ud, Ud, Ud, Ud, Ud, Ud, (Fd x), (Fd y), (Bo (fcmp .eql (ford .f64 (cf .f64 x) (cf .f64 y))))]) rfl rfl (does_fcmp (.inl rfl) (ev rfl) (ev rfl)) rfl ?_
  refine q_is (l' := [(Fd x), (Fd y), Ud, Ud, (Bo (fcmp .eql (ford .f64 (cf .f64 x) (cf .f64 y)))), v4, v5, v6, v7, v8, v9, v10, (Bo (β1 || β2)), Ud, Ud, Ud, Ud, Ud, Ud, Ud, Ud, v35, v36, v37, v38, v39, (Bo (β5 && β6)), Ud, Ud, Ud, Ud, Ud, Ud, Ud, (Fd x), (Fd y), (Bo (fcmp .eql (ford .f64 (cf .f64 x) (cf .f64 y))))]) rfl rfl (does_assign (u := (Bo (fcmp .eql (ford .f64 (cf .f64 x) (cf .f64 y))))) (ev rfl)) rfl ?_
  refine wpList_nil (hK59 _ _ ?_)
  refine wp_ret ?_
  refine ret_val (v := (Bo (fcmp .eql (ford .f64 (cf .f64 x) (cf .f64 y))))) (res_T rfl (slot rfl)) X45 ?_
  try simp only [hβ1, hβ2, hβ5, hβ6] at c17 c46
  have x60 : (sameF (cf .f64 x) (cf .f64 y)) = (fcmp .eql (ford .f64 (cf .f64 x) (cf .f64 y))) := by first | rfl | (simp only [sameF, hβ1, hβ2, hβ5, hβ6, c17, c46]; done) | (simp [sameF, hβ1, hβ2, hβ5, hβ6, c17, c46]; done) | (revert c17 c46; simp +contextual [sameF, hβ1, hβ2, hβ5, hβ6]; done) | (rcases c17' with hh | hh <;> simp only [hh, sameF, hβ1, hβ2, hβ5, hβ6, c17, c46]; done) | (rcases c46' with hh | hh <;> simp only [hh, sameF, hβ1, hβ2, hβ5, hβ6, c17, c46]; done)
  exact (by first | rfl | rw [x60])

/- laws.eqVector -/
theorem c_laws_eqVector (a : List Value) (A_a : V3) (b : List Value) (A_b : V3) (w : World) (hv_a : RV3 w A_a a) (hv_b : RV3 w A_b b) : Gives Try.prog 29 #[(.agg a.toArray), (.agg b.toArray)] w (fun v w' => v = (Bo (sameV A_a A_b))) := by
  obtain ⟨r1, r3, r5, rfl, h2, h4, h6⟩ := hv_a
  obtain ⟨r7, r9, r11, rfl, h8, h10, h12⟩ := hv_b
  refine enter [(.agg #[(Fl r1), (Fl r3), (Fl r5)]), (.agg #[(Fl r7), (Fl r9), (Fl r11)]), Ud, Ud, Ud, Ud, Ud, Ud, Ud, Ud, Ud, Ud, Ud, Ud, Ud, Ud, Ud, Ud, Ud, Ud, Ud, Ud, Ud, Ud, Ud, Ud, Ud, Ud, Ud] Try.func29 rfl Try.ntmps29 rfl ?_
  refine wp_seq_k fun K13 hK13 => ?_
  refine wp_region_lit ?_
  refine seqd rfl rfl (does_box (u := (.agg #[(Fl r1), (Fl r3), (Fl r5)])) (ev rfl)) ?_; rintro _ w18 ⟨b14, rfl, hb15, hB16, E17⟩
  have g19 : w.heap.size ≤ b14 := Nat.le_trans (Below.size (Ext.refl w)) hb15
  change Blk _ _ [(Fl r1), (Fl r3), (Fl r5)] at hB16
  have X20 := Ext.gr (Ext.refl w) E17
  show wpList _ _ _ _ (fr [(.agg #[(Fl r1), (Fl r3), (Fl r5)]), (.agg #[(Fl r7), (Fl r9), (Fl r11)]), (Pt b14 0), Ud, Ud, Ud, Ud, Ud, Ud, Ud, Ud, Ud, Ud, Ud, Ud, Ud, Ud, Ud, Ud, Ud, Ud, Ud, Ud, Ud, Ud, Ud, Ud, Ud, Ud]) _
  refine seqd rfl rfl (does_box (u := (.agg #[(Fl r7), (Fl r9), (Fl r11)])) (ev rfl)) ?_; rintro _ w25 ⟨b21, rfl, hb22, hB23, E24⟩
  have n26 : b14 < b21 := Nat.lt_of_lt_of_le (Blk.lt hB16) hb22
  have g27 : w.heap.size ≤ b21 := Nat.le_trans (Below.size X20) hb22
  change Blk _ _ [(Fl r7), (Fl r9), (Fl r11)] at hB23
  have X28 := Ext.gr X20 E24
  show wpList _ _ _ _ (fr [(.agg #[(Fl r1), (Fl r3), (Fl r5)]), (.agg #[(Fl r7), (Fl r9), (Fl r11)]), (Pt b14 0), (Pt b21 0), Ud, Ud, Ud, Ud, Ud, Ud, Ud, Ud, Ud, Ud, Ud, Ud, Ud, Ud, Ud, Ud, Ud, Ud, Ud, Ud, Ud, Ud, Ud, Ud, Ud]) _
  refine q_is (l' := [(.agg #[(Fl r1), (Fl r3), (Fl r5)]), (.agg #[(Fl r7), (Fl r9), (Fl r11)]), (Pt b14 0), (Pt b21 0), (Bo false), Ud, Ud, Ud, Ud, Ud, Ud, Ud, Ud, Ud, Ud, Ud, Ud, Ud, Ud, Ud, Ud, Ud, Ud, Ud, Ud, Ud, Ud, Ud, Ud]) rfl rfl (does_assign (u := (Bo false)) (ev rfl)) rfl ?_
  refine wpList_nil (hK13 _ _ ?_)
  refine wp_seq_k fun K29 hK29 => ?_
  refine wp_seq_k fun K30 hK30 => ?_
  refine wp_region_lit ?_
  refine q_is (l' := [(.agg #[(Fl r1), (Fl r3), (Fl r5)]), (.agg #[(Fl r7), (Fl r9), (Fl r11)]), (Pt b14 0), (Pt b21 0), (Bo false), (Pt b14 0), Ud, Ud, Ud, Ud, Ud, Ud, Ud, Ud, Ud, Ud, Ud, Ud, Ud, Ud, Ud, Ud, Ud, Ud, Ud, Ud, Ud, Ud, Ud]) rfl rfl (does_fieldAddr (ev rfl) fa31_0) rfl ?_
  refine q_is (l' := [(.agg #[(Fl r1), (Fl r3), (Fl r5)]), (.agg #[(Fl r7), (Fl r9), (Fl r11)]), (Pt b14 0), (Pt b21 0), (Bo false), (Pt b14 0), (Fl r1), Ud, Ud, Ud, Ud, Ud, Ud, Ud, Ud, Ud, Ud, Ud, Ud, Ud, Ud, Ud, Ud, Ud, Ud, Ud, Ud, Ud, Ud]) rfl rfl (does_load (u := (Fl r1)) (ev rfl) Try.isAgg25 (Cells.at (Blk.cells (hB16.ext E24)) 0 rfl)) rfl ?_
  refine seqd rfl rfl (does_widen Try.underlying25 Try.underlying89 (ev rfl)) ?_; rintro _ w34 ⟨r31, rfl, h32, E33⟩
  have X35 := Ext.gr X28 E33
  show wpList _ _ _ _ (fr [(.agg #[(Fl r1), (Fl r3), (Fl r5)]), (.agg #[(Fl r7), (Fl r9), (Fl r11)]), (Pt b14 0), (Pt b21 0), (Bo false), (Pt b14 0), (Fl r1), (Fd r31), Ud, Ud, Ud, Ud, Ud, Ud, Ud, Ud, Ud, Ud, Ud, Ud, Ud, Ud, Ud, Ud, Ud, Ud, Ud, Ud, Ud]) _
  refine q_is (l' := [(.agg #[(Fl r1), (Fl r3), (Fl r5)]), (.agg #[(Fl r7), (Fl r9), (Fl r11)]), (Pt b14 0), (Pt b21 0), (Bo false), (Pt b14 0), (Fl r1), (Fd r31), (Pt b21 0), Ud, Ud, Ud, Ud, Ud, Ud, Ud, Ud, Ud, Ud, Ud, Ud, Ud, Ud, Ud, Ud, Ud, Ud, Ud, Ud]) rfl rfl (does_fieldAddr (ev rfl) fa31_0) rfl ?_
  refine q_is (l' := [(.agg #[(Fl r1), (Fl r3), (Fl r5)]), (.agg #[(Fl r7), (Fl r9), (Fl r11)]), (Pt b14 0), (Pt b21 0), (Bo false), (Pt b14 0), (Fl r1), (Fd r31), (Pt b21 0), (Fl r7), Ud, Ud, Ud, Ud, Ud, Ud, Ud, Ud, Ud, Ud, Ud, Ud, Ud, Ud, Ud, Ud, Ud, Ud, Ud]) rfl rfl (does_load (u := (Fl r7)) (ev rfl) Try.isAgg25 (Cells.at (Blk.cells (hB23.ext E33)) 0 rfl)) rfl ?_
  refine seqd rfl rfl (does_widen Try.underlying25 Try.underlying89 (ev rfl)) ?_; rintro _ w39 ⟨r36, rfl, h37, E38⟩
  have X40 := Ext.gr X35 E38
  show wpList _ _ _ _ (fr [(.agg #[(Fl r1), (Fl r3), (Fl r5)]), (.agg #[(Fl r7), (Fl r9), (Fl r11)]), (Pt b14 0), (Pt b21 0), (Bo false), (Pt b14 0), (Fl r1), (Fd r31), (Pt b21 0), (Fl r7), (Fd r36), Ud, Ud, Ud, Ud, Ud, Ud, Ud, Ud, Ud, Ud, Ud, Ud, Ud, Ud, Ud, Ud, Ud, Ud]) _
  refine seqd rfl rfl (does_call (args := #[(Fd r31), (Fd r36)]) cal56 (evs rfl) (c_laws_sameFloat r31 r36 _)) ?_; rintro _ w42 ⟨E41, rfl⟩
  have X43 := Ext.gr X40 E41
  show wpList _ _ _ _ (fr [(.agg #[(Fl r1), (Fl r3), (Fl r5)]), (.agg #[(Fl r7), (Fl r9), (Fl r11)]), (Pt b14 0), (Pt b21 0), (Bo false), (Pt b14 0), (Fl r1), (Fd r31), (Pt b21 0), (Fl r7), (Fd r36), (Bo (sameF (cf .f64 r31) (cf .f64 r36))), Ud, Ud, Ud, Ud, Ud, Ud, Ud, Ud, Ud, Ud, Ud, Ud, Ud, Ud, Ud, Ud, Ud]) _
  refine q_is (l' := [(.agg #[(Fl r1), (Fl r3), (Fl r5)]), (.agg #[(Fl r7), (Fl r9), (Fl r11)]), (Pt b14 0), (Pt b21 0), (Bo false), (Pt b14 0), (Fl r1), (Fd r31), (Pt b21 0), (Fl r7), (Fd r36), (Bo (sameF (cf .f64 r31) (cf .f64 r36))), (Bo (!(sameF (cf .f64 r31) (cf .f64 r36)))), Ud, Ud, Ud, Ud, Ud, Ud, Ud, Ud, Ud, Ud, Ud, Ud, Ud, Ud, Ud, Ud]) rfl rfl (does_not (ev rfl)) rfl ?_
  refine wpList_nil (hK30 _ _ ?_)
  refine wp_cond_split (t := !(sameF (cf .f64 r31) (cf .f64 r36))) (ev rfl) (fun c44 => ?_) (fun c44 => ?_)
  · rw [Bool.not_eq_true'] at c44
    have c44' := c44
    refine wp_seq_k fun K45 hK45 => ?_
    refine wp_region_lit ?_
    refine q_is (l' := [(.agg #[(Fl r1), (Fl r3), (Fl r5)]), (.agg #[(Fl r7), (Fl r9), (Fl r11)]), (Pt b14 0), (Pt b21 0), (Bo false), (Pt b14 0), (Fl r1), (Fd r31), (Pt b21 0), (Fl r7), (Fd r36), (Bo (sameF (cf .f64 r31) (cf .f64 r36))), (Bo (!(sameF (cf .f64 r31) (cf .f64 r36)))), Ud, Ud, Ud, Ud, Ud, Ud, Ud, Ud, Ud, Ud, Ud, Ud, Ud, Ud, Ud, Ud]) rfl rfl (does_assign (u := (Bo false)) (ev rfl)) rfl ?_
    refine wpList_nil (hK45 _ _ ?_)
    refine wp_ret ?_
    dsimp only [Exit.then, Exit.inBlock]
    refine ret_val (v := (Bo false)) (res_T rfl (slot rfl)) X43 ?_
    try simp only [h2, h4, h6, h8, h10, h12, h32, h37] at c44
    have x46 : (sameV A_a A_b) = false := by first | rfl | (simp only [sameV, h2, h4, h6, h8, h10, h12, h32, h37, c44]; done) | (simp [sameV, h2, h4, h6, h8, h10, h12, h32, h37, c44]; done) | (revert c44; simp +contextual [sameV, h2, h4, h6, h8, h10, h12, h32, h37]; done) | (rcases c44' with hh | hh <;> simp only [hh, sameV, h2, h4, h6, h8, h10, h12, h32, h37, c44]; done)
    exact (by first | rfl | rw [x46])
  rw [Bool.not_eq_false'] at c44
  have c44' := c44
  refine wp_skip (hK29 _ _ ?_)
  refine wp_seq_k fun K47 hK47 => ?_
  refine wp_seq_k fun K48 hK48 => ?_
  refine wp_region_lit ?_
  refine q_is (l' := [(.agg #[(Fl r1), (Fl r3), (Fl r5)]), (.agg #[(Fl r7), (Fl r9), (Fl r11)]), (Pt b14 0), (Pt b21 0), (Bo false), (Pt b14 0), (Fl r1), (Fd r31), (Pt b21 0), (Fl r7), (Fd r36), (Bo (sameF (cf .f64 r31) (cf .f64 r36))), (Bo (!(sameF (cf .f64 r31) (cf .f64 r36)))), (Pt b14 1), Ud, Ud, Ud, Ud, Ud, Ud, Ud, Ud, Ud, Ud, Ud, Ud, Ud, Ud, Ud]) rfl rfl (does_fieldAddr (ev rfl) fa31_1) rfl ?_
  refine q_is (l' := [(.agg #[(Fl r1), (Fl r3), (Fl r5)]), (.agg #[(Fl r7), (Fl r9), (Fl r11)]), (Pt b14 0), (Pt b21 0), (Bo false), (Pt b14 0), (Fl r1), (Fd r31), (Pt b21 0), (Fl r7), (Fd r36), (Bo (sameF (cf .f64 r31) (cf .f64 r36))), (Bo (!(sameF (cf .f64 r31) (cf .f64 r36)))), (Pt b14 1), (Fl r3), Ud, Ud, Ud, Ud, Ud, Ud, Ud, Ud, Ud, Ud, Ud, Ud, Ud, Ud]) rfl rfl (does_load (u := (Fl r3)) (ev rfl) Try.isAgg25 (Cells.at (Blk.cells ((((hB16.ext E24).ext E33).ext E38).ext E41)) 1 rfl)) rfl ?_
  refine seqd rfl rfl (does_widen Try.underlying25 Try.underlying89 (ev rfl)) ?_; rintro _ w52 ⟨r49, rfl, h50, E51⟩
  have X53 := Ext.gr X43 E51
  show wpList _ _ _ _ (fr [(.agg #[(Fl r1), (Fl r3), (Fl r5)]), (.agg #[(Fl r7), (Fl r9), (Fl r11)]), (Pt b14 0), (Pt b21 0), (Bo false), (Pt b14 0), (Fl r1), (Fd r31), (Pt b21 0), (Fl r7), (Fd r36), (Bo (sameF (cf .f64 r31) (cf .f64 r36))), (Bo (!(sameF (cf .f64 r31) (cf .f64 r36)))), (Pt b14 1), (Fl r3), (Fd r49), Ud, Ud, Ud, Ud, Ud, Ud, Ud, Ud, Ud, Ud, Ud, Ud, Ud]) _
  refine q_is (l' := [(.agg #[(Fl r1), (Fl r3), (Fl r5)]), (.agg #[(Fl r7), (Fl r9), (Fl r11)]), (Pt b14 0), (Pt b21 0), (Bo false), (Pt b14 0), (Fl r1), (Fd r31), (Pt b21 0), (Fl r7), (Fd r36), (Bo (sameF (cf .f64 r31) (cf .f64 r36))), (Bo (!(sameF (cf .f64 r31) (cf .f64 r36)))), (Pt b14 1), (Fl r3), (Fd r49), (Pt b21 1), Ud, Ud, Ud, Ud, Ud, Ud, Ud, Ud, Ud, Ud, Ud, Ud]) rfl rfl (does_fieldAddr (ev rfl) fa31_1) rfl ?_
  refine q_is (l' := [(.agg #[(Fl r1), (Fl r3), (Fl r5)]), (.agg #[(Fl r7), (Fl r9), (Fl r11)]), (Pt b14 0), (Pt b21 0), (Bo false), (Pt b14 0), (Fl r1), (Fd r31), (Pt b21 0), (Fl r7), (Fd r36), (Bo (sameF (cf .f64 r31) (cf .f64 r36))), (Bo (!(sameF (cf .f64 r31) (cf .f64 r36)))), (Pt b14 1), (Fl r3), (Fd r49), (Pt b21 1), (Fl r9), Ud, Ud, Ud, Ud, Ud, Ud, Ud, Ud, Ud, Ud, Ud]) rfl rfl (does_load (u := (Fl r9)) (ev rfl) Try.isAgg25 (Cells.at (Blk.cells ((((hB23.ext E33).ext E38).ext E41).ext E51)) 1 rfl)) rfl ?_
  refine seqd rfl rfl (does_widen Try.underlying25 Try.underlying89 (ev rfl)) ?_; rintro _ w57 ⟨r54, rfl, h55, E56⟩
  have X58 := Ext.gr X53 E56
  show wpList _ _ _ _ (fr [(.agg #[(Fl r1), (Fl r3), (Fl r5)]), (.agg #[(Fl r7), (Fl r9), (Fl r11)]), (Pt b14 0), (Pt b21 0), (Bo false), (Pt b14 0), (Fl r1), (Fd r31), (Pt b21 0), (Fl r7), (Fd r36), (Bo (sameF (cf .f64 r31) (cf .f64 r36))), (Bo (!(sameF (cf .f64 r31) (cf .f64 r36)))), (Pt b14 1), (Fl r3), (Fd r49), (Pt b21 1), (Fl r9), (Fd r54), Ud, Ud, Ud, Ud, Ud, Ud, Ud, Ud, Ud, Ud]) _
  refine seqd rfl rfl (does_call (args := #[(Fd r49), (Fd r54)]) cal56 (evs rfl) (c_laws_sameFloat r49 r54 _)) ?_; rintro _ w60 ⟨E59, rfl⟩
  have X61 := Ext.gr X58 E59
  show wpList _ _ _ _ (fr [(.agg #[(Fl r1), (Fl r3), (Fl r5)]), (.agg #[(Fl r7), (Fl r9), (Fl r11)]), (Pt b14 0), (Pt b21 0), (Bo false), (Pt b14 0), (Fl r1), (Fd r31), (Pt b21 0), (Fl r7), (Fd r36), (Bo (sameF (cf .f64 r31) (cf .f64 r36))), (Bo (!(sameF (cf .f64 r31) (cf .f64 r36)))), (Pt b14 1), (Fl r3), (Fd r49), (Pt b21 1), (Fl r9), (Fd r54), (Bo (sameF (cf .f64 r49) (cf .f64 r54))), Ud, Ud, Ud, Ud, Ud, Ud, Ud, Ud, Ud]) _
  refine q_is (l' := [(.agg #[(Fl r1), (Fl r3), (Fl r5)]), (.agg #[(Fl r7), (Fl r9), (Fl r11)]), (Pt b14 0), (Pt b21 0), (Bo false), (Pt b14 0), (Fl r1), (Fd r31), (Pt b21 0), (Fl r7), (Fd r36), (Bo (sameF (cf .f64 r31) (cf .f64 r36))), (Bo (!(sameF (cf .f64 r31) (cf .f64 r36)))), (Pt b14 1), (Fl r3), (Fd r49), (Pt b21 1), (Fl r9), (Fd r54), (Bo (sameF (cf .f64 r49) (cf .f64 r54))), (Bo (!(sameF (cf .f64 r49) (cf .f64 r54)))), Ud, Ud, Ud, Ud, Ud, Ud, Ud, Ud]) rfl rfl (does_not (ev rfl)) rfl ?_
  refine wpList_nil (hK48 _ _ ?_)
  refine wp_cond_split (t := !(sameF (cf .f64 r49) (cf .f64 r54))) (ev rfl) (fun c62 => ?_) (fun c62 => ?_)
  · rw [Bool.not_eq_true'] at c62
    have c62' := c62
    refine wp_seq_k fun K63 hK63 => ?_
    refine wp_region_lit ?_
    refine q_is (l' := [(.agg #[(Fl r1), (Fl r3), (Fl r5)]), (.agg #[(Fl r7), (Fl r9), (Fl r11)]), (Pt b14 0), (Pt b21 0), (Bo false), (Pt b14 0), (Fl r1), (Fd r31), (Pt b21 0), (Fl r7), (Fd r36), (Bo (sameF (cf .f64 r31) (cf .f64 r36))), (Bo (!(sameF (cf .f64 r31) (cf .f64 r36)))), (Pt b14 1), (Fl r3), (Fd r49), (Pt b21 1), (Fl r9), (Fd r54), (Bo (sameF (cf .f64 r49) (cf .f64 r54))), (Bo (!(sameF (cf .f64 r49) (cf .f64 r54)))), Ud, Ud, Ud, Ud, Ud, Ud, Ud, Ud]) rfl rfl (does_assign (u := (Bo false)) (ev rfl)) rfl ?_
    refine wpList_nil (hK63 _ _ ?_)
    refine wp_ret ?_
    dsimp only [Exit.then, Exit.inBlock]
    refine ret_val (v := (Bo false)) (res_T rfl (slot rfl)) X61 ?_
    try simp only [h2, h4, h6, h8, h10, h12, h32, h37, h50, h55] at c44 c62
    have x64 : (sameV A_a A_b) = false := by first | rfl | (simp only [sameV, h2, h4, h6, h8, h10, h12, h32, h37, h50, h55, c44, c62]; done) | (simp [sameV, h2, h4, h6, h8, h10, h12, h32, h37, h50, h55, c44, c62]; done) | (revert c44 c62; simp +contextual [sameV, h2, h4, h6, h8, h10, h12, h32, h37, h50, h55]; done) | (rcases c44' with hh | hh <;> simp only [hh, sameV, h2, h4, h6, h8, h10, h12, h32, h37, h50, h55, c44, c62]; done) | (rcases c62' with hh | hh <;> simp only [hh, sameV, h2, h4, h6, h8, h10, h12, h32, h37, h50, h55, c44, c62]; done)
    exact (by first | rfl | rw [x64])
  rw [Bool.not_eq_false'] at c62
  have c62' := c62
  refine wp_skip (hK47 _ _ ?_)
  refine wp_seq_k fun K65 hK65 => ?_
  refine wp_seq_k fun K66 hK66 => ?_
  refine wp_region_lit ?_
  refine q_is (l' := [(.agg #[(Fl r1), (Fl r3), (Fl r5)]), (.agg #[(Fl r7), (Fl r9), (Fl r11)]), (Pt b14 0), (Pt b21 0), (Bo false), (Pt b14 0), (Fl r1), (Fd r31), (Pt b21 0), (Fl r7), (Fd r36), (Bo (sameF (cf .f64 r31) (cf .f64 r36))), (Bo (!(sameF (cf .f64 r31) (cf .f64 r36)))), (Pt b14 1), (Fl r3), (Fd r49), (Pt b21 1), (Fl r9), (Fd r54), (Bo (sameF (cf .f64 r49) (cf .f64 r54))), (Bo (!(sameF (cf .f64 r49) (cf .f64 r54)))), (Pt b14 2), Ud, Ud, Ud, Ud, Ud, Ud, Ud]) rfl rfl (does_fieldAddr (ev rfl) fa31_2) rfl ?_
  refine q_is (l' := [(.agg #[(Fl r1), (Fl r3), (Fl r5)]), (.agg #[(Fl r7), (Fl r9), (Fl r11)]), (Pt b14 0), (Pt b21 0), (Bo false), (Pt b14 0), (Fl r1), (Fd r31), (Pt b21 0), (Fl r7), (Fd r36), (Bo (sameF (cf .f64 r31) (cf .f64 r36))), (Bo (!(sameF (cf .f64 r31) (cf .f64 r36)))), (Pt b14 1), (Fl r3), (Fd r49), (Pt b21 1), (Fl r9), (Fd r54), (Bo (sameF (cf .f64 r49) (cf .f64 r54))), (Bo (!(sameF (cf .f64 r49) (cf .f64 r54)))), (Pt b14 2), (Fl r5), Ud, Ud, Ud, Ud, Ud, Ud]) rfl rfl (does_load (u := (Fl r5)) (ev rfl) Try.isAgg25 (Cells.at (Blk.cells (((((((hB16.ext E24).ext E33).ext E38).ext E41).ext E51).ext E56).ext E59)) 2 rfl)) rfl ?_
  refine seqd rfl rfl (does_widen Try.underlying25 Try.underlying89 (ev rfl)) ?_; rintro _ w70 ⟨r67, rfl, h68, E69⟩
  have X71 := Ext.gr X61 E69
  show wpList _ _ _ _ (fr [(.agg #[(Fl r1), (Fl r3), (Fl r5)]), (.agg #[(Fl r7), (Fl r9), (Fl r11)]), (Pt b14 0), (Pt b21 0), (Bo false), (Pt b14 0), (Fl r1), (Fd r31), (Pt b21 0), (Fl r7), (Fd r36), (Bo (sameF (cf .f64 r31) (cf .f64 r36))), (Bo (!(sameF (cf .f64 r31) (cf .f64 r36)))), (Pt b14 1), (Fl r3), (Fd r49), (Pt b21 1), (Fl r9), (Fd r54), (Bo (sameF (cf .f64 r49) (cf .f64 r54))), (Bo (!(sameF (cf .f64 r49) (cf .f64 r54)))), (Pt b14 2), (Fl r5), (Fd r67), Ud, Ud, Ud, Ud, Ud]) _
  refine q_is (l' := [(.agg #[(Fl r1), (Fl r3), (Fl r5)]), (.agg #[(Fl r7), (Fl r9), (Fl r11)]), (Pt b14 0), (Pt b21 0), (Bo false), (Pt b14 0), (Fl r1), (Fd r31), (Pt b21 0), (Fl r7), (Fd r36), (Bo (sameF (cf .f64 r31) (cf .f64 r36))), (Bo (!(sameF (cf .f64 r31) (cf .f64 r36)))), (Pt b14 1), (Fl r3), (Fd r49), (Pt b21 1), (Fl r9), (Fd r54), (Bo (sameF (cf .f64 r49) (cf .f64 r54))), (Bo (!(sameF (cf .f64 r49) (cf .f64 r54)))), (Pt b14 2), (Fl r5), (Fd r67), (Pt b21 2), Ud, Ud, Ud, Ud]) rfl rfl (does_fieldAddr (ev rfl) fa31_2) rfl ?_
  refine q_is (l' := [(.agg #[(Fl r1), (Fl r3), (Fl r5)]), (.agg #[(Fl r7), (Fl r9), (Fl r11)]), (Pt b14 0), (Pt b21 0), (Bo false), (Pt b14 0), (Fl r1), (Fd r31), (Pt b21 0), (Fl r7), (Fd r36), (Bo (sameF (cf .f64 r31) (cf .f64 r36))), (Bo (!(sameF (cf .f64 r31) (cf .f64 r36)))), (Pt b14 1), (Fl r3), (Fd r49), (Pt b21 1), (Fl r9), (Fd r54), (Bo (sameF (cf .f64 r49) (cf .f64 r54))), (Bo (!(sameF (cf .f64 r49) (cf .f64 r54)))), (Pt b14 2), (Fl r5), (Fd r67), (Pt b21 2), (Fl r11), Ud, Ud, Ud]) rfl rfl (does_load (u := (Fl r11)) (ev rfl) Try.isAgg25 (Cells.at (Blk.cells (((((((hB23.ext E33).ext E38).ext E41).ext E51).ext E56).ext E59).ext E69)) 2 rfl)) rfl ?_
  refine seqd rfl rfl (does_widen Try.underlying25 Try.underlying89 (ev rfl)) ?_; rintro _ w75 ⟨r72, rfl, h73, E74⟩
  have X76 := Ext.gr X71 E74
  show wpList _ _ _ _ (fr [(.agg #[(Fl r1), (Fl r3), (Fl r5)]), (.agg #[(Fl r7), (Fl r9), (Fl r11)]), (Pt b14 0), (Pt b21 0), (Bo false), (Pt b14 0), (Fl r1), (Fd r31), (Pt b21 0), (Fl r7), (Fd r36), (Bo (sameF (cf .f64 r31) (cf .f64 r36))), (Bo (!(sameF (cf .f64 r31) (cf .f64 r36)))), (Pt b14 1), (Fl r3), (Fd r49), (Pt b21 1), (Fl r9), (Fd r54), (Bo (sameF (cf .f64 r49) (cf .f64 r54))), (Bo (!(sameF (cf .f64 r49) (cf .f64 r54)))), (Pt b14 2), (Fl r5), (Fd r67), (Pt b21 2), (Fl r11), (Fd r72), Ud, Ud]) _
  refine seqd rfl rfl (does_call (args := #[(Fd r67), (Fd r72)]) cal56 (evs rfl) (c_laws_sameFloat r67 r72 _)) ?_; rintro _ w78 ⟨E77, rfl⟩
  have X79 := Ext.gr X76 E77
  show wpList _ _ _ _ (fr [(.agg #[(Fl r1), (Fl r3), (Fl r5)]), (.agg #[(Fl r7), (Fl r9), (Fl r11)]), (Pt b14 0), (Pt b21 0), (Bo false), (Pt b14 0), (Fl r1), (Fd r31), (Pt b21 0), (Fl r7), (Fd r36), (Bo (sameF (cf .f64 r31) (cf .f64 r36))), (Bo (!(sameF (cf .f64 r31) (cf .f64 r36)))), (Pt b14 1), (Fl r3), (Fd r49), (Pt b21 1), (Fl r9), (Fd r54), (Bo (sameF (cf .f64 r49) (cf .f64 r54))), (Bo (!(sameF (cf .f64 r49) (cf .f64 r54)))), (Pt b14 2), (Fl r5), (Fd r67), (Pt b21 2), (Fl r11), (Fd r72), (Bo (sameF (cf .f64 r67) (cf .f64 r72))), Ud]) _
  refine q_is (l' := [(.agg #[(Fl r1), (Fl r3), (Fl r5)]), (.agg #[(Fl r7), (Fl r9), (Fl r11)]), (Pt b14 0), (Pt b21 0), (Bo false), (Pt b14 0), (Fl r1), (Fd r31), (Pt b21 0), (Fl r7), (Fd r36), (Bo (sameF (cf .f64 r31) (cf .f64 r36))), (Bo (!(sameF (cf .f64 r31) (cf .f64 r36)))), (Pt b14 1), (Fl r3), (Fd r49), (Pt b21 1), (Fl r9), (Fd r54), (Bo (sameF (cf .f64 r49) (cf .f64 r54))), (Bo (!(sameF (cf .f64 r49) (cf .f64 r54)))), (Pt b14 2), (Fl r5), (Fd r67), (Pt b21 2), (Fl r11), (Fd r72), (Bo (sameF (cf .f64 r67) (cf .f64 r72))), (Bo (!(sameF (cf .f64 r67) (cf .f64 r72))))]) rfl rfl (does_not (ev rfl)) rfl ?_
  refine wpList_nil (hK66 _ _ ?_)
  refine wp_cond_split (t := !(sameF (cf .f64 r67) (cf .f64 r72))) (ev rfl) (fun c80 => ?_) (fun c80 => ?_)
  · rw [Bool.not_eq_true'] at c80
    have c80' := c80
    refine wp_seq_k fun K81 hK81 => ?_
    refine wp_region_lit ?_
    refine q_is (l' := [(.agg #[(Fl r1), (Fl r3), (Fl r5)]), (.agg #[(Fl r7), (Fl r9), (Fl r11)]), (Pt b14 0), (Pt b21 0), (Bo false), (Pt b14 0), (Fl r1), (Fd r31), (Pt b21 0), (Fl r7), (Fd r36), (Bo (sameF (cf .f64 r31) (cf .f64 r36))), (Bo (!(sameF (cf .f64 r31) (cf .f64 r36)))), (Pt b14 1), (Fl r3), (Fd r49), (Pt b21 1), (Fl r9), (Fd r54), (Bo (sameF (cf .f64 r49) (cf .f64 r54))), (Bo (!(sameF (cf .f64 r49) (cf .f64 r54)))), (Pt b14 2), (Fl r5), (Fd r67), (Pt b21 2), (Fl r11), (Fd r72), (Bo (sameF (cf .f64 r67) (cf .f64 r72))), (Bo (!(sameF (cf .f64 r67) (cf .f64 r72))))]) rfl rfl (does_assign (u := (Bo false)) (ev rfl)) rfl ?_
    refine wpList_nil (hK81 _ _ ?_)
    refine wp_ret ?_
    dsimp only [Exit.then, Exit.inBlock]
    refine ret_val (v := (Bo false)) (res_T rfl (slot rfl)) X79 ?_
    try simp only [h2, h4, h6, h8, h10, h12, h32, h37, h50, h55, h68, h73] at c44 c62 c80
    have x82 : (sameV A_a A_b) = false := by first | rfl | (simp only [sameV, h2, h4, h6, h8, h10, h12, h32, h37, h50, h55, h68, h73, c44, c62, c80]; done) | (simp [sameV, h2, h4, h6, h8, h10, h12, h32, h37, h50, h55, h68, h73, c44, c62, c80]; done) | (revert c44 c62 c80; simp +contextual [sameV, h2, h4, h6, h8, h10, h12, h32, h37, h50, h55, h68, h73]; done) | (rcases c44' with hh | hh <;> simp only [hh, sameV, h2, h4, h6, h8, h10, h12, h32, h37, h50, h55, h68, h73, c44, c62, c80]; done) | (rcases c62' with hh | hh <;> simp only [hh, sameV, h2, h4, h6, h8, h10, h12, h32, h37, h50, h55, h68, h73, c44, c62, c80]; done) | (rcases c80' with hh | hh <;> simp only [hh, sameV, h2, h4, h6, h8, h10, h12, h32, h37, h50, h55, h68, h73, c44, c62, c80]; done)
    exact (by first | rfl | rw [x82])
  rw [Bool.not_eq_false'] at c80
  have c80' := c80
  refine wp_skip (hK65 _ _ ?_)
  refine wp_seq_k fun K83 hK83 => ?_
  refine wp_region_lit ?_
  refine q_is (l' := [(.agg #[(Fl r1), (Fl r3), (Fl r5)]), (.agg #[(Fl r7), (Fl r9), (Fl r11)]), (Pt b14 0), (Pt b21 0), (Bo true), (Pt b14 0), (Fl r1), (Fd r31), (Pt b21 0), (Fl r7), (Fd r36), (Bo (sameF (cf .f64 r31) (cf .f64 r36))), (Bo (!(sameF (cf .f64 r31) (cf .f64 r36)))), (Pt b14 1), (Fl r3), (Fd r49), (Pt b21 1), (Fl r9), (Fd r54), (Bo (sameF (cf .f64 r49) (cf .f64 r54))), (Bo (!(sameF (cf .f64 r49) (cf .f64 r54)))), (Pt b14 2), (Fl r5), (Fd r67), (Pt b21 2), (Fl r11), (Fd r72), (Bo (sameF (cf .f64 r67) (cf .f64 r72))), (Bo (!(sameF (cf .f64 r67) (cf .f64 r72))))]) rfl rfl (does_assign (u := (Bo true)) (ev rfl)) rfl ?_
  refine wpList_nil (hK83 _ _ ?_)
  refine wp_ret ?_
  refine ret_val (v := (Bo true)) (res_T rfl (slot rfl)) X79 ?_
  try simp only [h2, h4, h6, h8, h10, h12, h32, h37, h50, h55, h68, h73] at c44 c62 c80
  have x84 : (sameV A_a A_b) = true := by first | rfl | (simp only [sameV, h2, h4, h6, h8, h10, h12, h32, h37, h50, h55, h68, h73, c44, c62, c80]; done) | (simp [sameV, h2, h4, h6, h8, h10, h12, h32, h37, h50, h55, h68, h73, c44, c62, c80]; done) | (revert c44 c62 c80; simp +contextual [sameV, h2, h4, h6, h8, h10, h12, h32, h37, h50, h55, h68, h73]; done) | (rcases c44' with hh | hh <;> simp only [hh, sameV, h2, h4, h6, h8, h10, h12, h32, h37, h50, h55, h68, h73, c44, c62, c80]; done) | (rcases c62' with hh | hh <;> simp only [hh, sameV, h2, h4, h6, h8, h10, h12, h32, h37, h50, h55, h68, h73, c44, c62, c80]; done) | (rcases c80' with hh | hh <;> simp only [hh, sameV, h2, h4, h6, h8, h10, h12, h32, h37, h50, h55, h68, h73, c44, c62, c80]; done)
  exact (by first | rfl | rw [x84])

/- laws.eqBox -/
theorem c_laws_eqBox (a : List Value) (A_a : Bx) (b : List Value) (A_b : Bx) (w : World) (hv_a : RBx w A_a a) (hv_b : RBx w A_b b) : Gives Try.prog 41 #[(.agg a.toArray), (.agg b.toArray)] w (fun v w' => v = (Bo (sameB A_a A_b))) := by
  obtain ⟨r1, r3, r5, r7, r9, r11, rfl, h2, h4, h6, h8, h10, h12⟩ := hv_a
  obtain ⟨r13, r15, r17, r19, r21, r23, rfl, h14, h16, h18, h20, h22, h24⟩ := hv_b
  refine enter [(.agg #[(Fl r1), (Fl r3), (Fl r5), (Fl r7), (Fl r9), (Fl r11)]), (.agg #[(Fl r13), (Fl r15), (Fl r17), (Fl r19), (Fl r21), (Fl r23)]), Ud, Ud, Ud, Ud, Ud, Ud, Ud, Ud, Ud, Ud, Ud, Ud, Ud, Ud, Ud] Try.func41 rfl Try.ntmps41 rfl ?_
  refine wp_seq_k fun K25 hK25 => ?_
  refine wp_region_lit ?_
  refine seqd rfl rfl (does_box (u := (.agg #[(Fl r1), (Fl r3), (Fl r5), (Fl r7), (Fl r9), (Fl r11)])) (ev rfl)) ?_; rintro _ w30 ⟨b26, rfl, hb27, hB28, E29⟩
  have g31 : w.heap.size ≤ b26 := Nat.le_trans (Below.size (Ext.refl w)) hb27
  change Blk _ _ [(Fl r1), (Fl r3), (Fl r5), (Fl r7), (Fl r9), (Fl r11)] at hB28
  have X32 := Ext.gr (Ext.refl w) E29
  show wpList _ _ _ _ (fr [(.agg #[(Fl r1), (Fl r3), (Fl r5), (Fl r7), (Fl r9), (Fl r11)]), (.agg #[(Fl r13), (Fl r15), (Fl r17), (Fl r19), (Fl r21), (Fl r23)]), (Pt b26 0), Ud, Ud, Ud, Ud, Ud, Ud, Ud, Ud, Ud, Ud, Ud, Ud, Ud, Ud]) _
  refine seqd rfl rfl (does_box (u := (.agg #[(Fl r13), (Fl r15), (Fl r17), (Fl r19), (Fl r21), (Fl r23)])) (ev rfl)) ?_; rintro _ w37 ⟨b33, rfl, hb34, hB35, E36⟩
  have n38 : b26 < b33 := Nat.lt_of_lt_of_le (Blk.lt hB28) hb34
  have g39 : w.heap.size ≤ b33 := Nat.le_trans (Below.size X32) hb34
  change Blk _ _ [(Fl r13), (Fl r15), (Fl r17), (Fl r19), (Fl r21), (Fl r23)] at hB35
  have X40 := Ext.gr X32 E36
  show wpList _ _ _ _ (fr [(.agg #[(Fl r1), (Fl r3), (Fl r5), (Fl r7), (Fl r9), (Fl r11)]), (.agg #[(Fl r13), (Fl r15), (Fl r17), (Fl r19), (Fl r21), (Fl r23)]), (Pt b26 0), (Pt b33 0), Ud, Ud, Ud, Ud, Ud, Ud, Ud, Ud, Ud, Ud, Ud, Ud, Ud]) _
  refine q_is (l' := [(.agg #[(Fl r1), (Fl r3), (Fl r5), (Fl r7), (Fl r9), (Fl r11)]), (.agg #[(Fl r13), (Fl r15), (Fl r17), (Fl r19), (Fl r21), (Fl r23)]), (Pt b26 0), (Pt b33 0), (Bo false), Ud, Ud, Ud, Ud, Ud, Ud, Ud, Ud, Ud, Ud, Ud, Ud]) rfl rfl (does_assign (u := (Bo false)) (ev rfl)) rfl ?_
  refine wpList_nil (hK25 _ _ ?_)
  refine wp_seq_k fun K41 hK41 => ?_
  refine wp_seq_k fun K42 hK42 => ?_
  refine wp_region_lit ?_
  refine q_is (l' := [(.agg #[(Fl r1), (Fl r3), (Fl r5), (Fl r7), (Fl r9), (Fl r11)]), (.agg #[(Fl r13), (Fl r15), (Fl r17), (Fl r19), (Fl r21), (Fl r23)]), (Pt b26 0), (Pt b33 0), (Bo false), (Pt b26 0), Ud, Ud, Ud, Ud, Ud, Ud, Ud, Ud, Ud, Ud, Ud]) rfl rfl (does_fieldAddr (ev rfl) fa33_0) rfl ?_
  refine q_is (l' := [(.agg #[(Fl r1), (Fl r3), (Fl r5), (Fl r7), (Fl r9), (Fl r11)]), (.agg #[(Fl r13), (Fl r15), (Fl r17), (Fl r19), (Fl r21), (Fl r23)]), (Pt b26 0), (Pt b33 0), (Bo false), (Pt b26 0), (.agg #[(Fl r1), (Fl r3), (Fl r5)]), Ud, Ud, Ud, Ud, Ud, Ud, Ud, Ud, Ud, Ud]) rfl rfl (does_loadAgg (cs := [(Fl r1), (Fl r3), (Fl r5)]) (ev rfl) Try.isAgg31 Try.sizeOf31 (Cells.sub (Blk.cells (hB28.ext E36)) 0 3) rfl) rfl ?_
  refine q_is (l' := [(.agg #[(Fl r1), (Fl r3), (Fl r5), (Fl r7), (Fl r9), (Fl r11)]), (.agg #[(Fl r13), (Fl r15), (Fl r17), (Fl r19), (Fl r21), (Fl r23)]), (Pt b26 0), (Pt b33 0), (Bo false), (Pt b26 0), (.agg #[(Fl r1), (Fl r3), (Fl r5)]), (Pt b33 0), Ud, Ud, Ud, Ud, Ud, Ud, Ud, Ud, Ud]) rfl rfl (does_fieldAddr (ev rfl) fa33_0) rfl ?_
  refine q_is (l' := [(.agg #[(Fl r1), (Fl r3), (Fl r5), (Fl r7), (Fl r9), (Fl r11)]), (.agg #[(Fl r13), (Fl r15), (Fl r17), (Fl r19), (Fl r21), (Fl r23)]), (Pt b26 0), (Pt b33 0), (Bo false), (Pt b26 0), (.agg #[(Fl r1), (Fl r3), (Fl r5)]), (Pt b33 0), (.agg #[(Fl r13), (Fl r15), (Fl r17)]), Ud, Ud, Ud, Ud, Ud, Ud, Ud, Ud]) rfl rfl (does_loadAgg (cs := [(Fl r13), (Fl r15), (Fl r17)]) (ev rfl) Try.isAgg31 Try.sizeOf31 (Cells.sub (Blk.cells hB35) 0 3) rfl) rfl ?_
  refine seqd rfl rfl (does_call (args := #[(.agg #[(Fl r1), (Fl r3), (Fl r5)]), (.agg #[(Fl r13), (Fl r15), (Fl r17)])]) cal29 (evs rfl) (c_laws_eqVector [(Fl r1), (Fl r3), (Fl r5)] A_a.lo [(Fl r13), (Fl r15), (Fl r17)] A_b.lo _ ⟨r1, r3, r5, rfl, h2, h4, h6⟩ ⟨r13, r15, r17, rfl, h14, h16, h18⟩)) ?_; rintro _ w44 ⟨E43, rfl⟩
  have X45 := Ext.gr X40 E43
  show wpList _ _ _ _ (fr [(.agg #[(Fl r1), (Fl r3), (Fl r5), (Fl r7), (Fl r9), (Fl r11)]), (.agg #[(Fl r13), (Fl r15), (Fl r17), (Fl r19), (Fl r21), (Fl r23)]), (Pt b26 0), (Pt b33 0), (Bo false), (Pt b26 0), (.agg #[(Fl r1), (Fl r3), (Fl r5)]), (Pt b33 0), (.agg #[(Fl r13), (Fl r15), (Fl r17)]), (Bo (sameV A_a.lo A_b.lo)), Ud, Ud, Ud, Ud, Ud, Ud, Ud]) _
  refine q_is (l' := [(.agg #[(Fl r1), (Fl r3), (Fl r5), (Fl r7), (Fl r9), (Fl r11)]), (.agg #[(Fl r13), (Fl r15), (Fl r17), (Fl r19), (Fl r21), (Fl r23)]), (Pt b26 0), (Pt b33 0), (Bo false), (Pt b26 0), (.agg #[(Fl r1), (Fl r3), (Fl r5)]), (Pt b33 0), (.agg #[(Fl r13), (Fl r15), (Fl r17)]), (Bo (sameV A_a.lo A_b.lo)), (Bo (!(sameV A_a.lo A_b.lo))), Ud, Ud, Ud, Ud, Ud, Ud]) rfl rfl (does_not (ev rfl)) rfl ?_
  refine wpList_nil (hK42 _ _ ?_)
  refine wp_cond_split (t := !(sameV A_a.lo A_b.lo)) (ev rfl) (fun c46 => ?_) (fun c46 => ?_)
  · rw [Bool.not_eq_true'] at c46
    have c46' := c46
    refine wp_seq_k fun K47 hK47 => ?_
    refine wp_region_lit ?_
    refine q_is (l' := [(.agg #[(Fl r1), (Fl r3), (Fl r5), (Fl r7), (Fl r9), (Fl r11)]), (.agg #[(Fl r13), (Fl r15), (Fl r17), (Fl r19), (Fl r21), (Fl r23)]), (Pt b26 0), (Pt b33 0), (Bo false), (Pt b26 0), (.agg #[(Fl r1), (Fl r3), (Fl r5)]), (Pt b33 0), (.agg #[(Fl r13), (Fl r15), (Fl r17)]), (Bo (sameV A_a.lo A_b.lo)), (Bo (!(sameV A_a.lo A_b.lo))), Ud, Ud, Ud, Ud, Ud, Ud]) rfl rfl (does_assign (u := (Bo false)) (ev rfl)) rfl ?_
    refine wpList_nil (hK47 _ _ ?_)
    refine wp_ret ?_
    dsimp only [Exit.then, Exit.inBlock]
    refine ret_val (v := (Bo false)) (res_T rfl (slot rfl)) X45 ?_
    try simp only [h2, h4, h6, h8, h10, h12, h14, h16, h18, h20, h22, h24] at c46
    have x48 : (sameB A_a A_b) = false := by first | rfl | (simp only [sameB, h2, h4, h6, h8, h10, h12, h14, h16, h18, h20, h22, h24, c46]; done) | (simp [sameB, h2, h4, h6, h8, h10, h12, h14, h16, h18, h20, h22, h24, c46]; done) | (revert c46; simp +contextual [sameB, h2, h4, h6, h8, h10, h12, h14, h16, h18, h20, h22, h24]; done) | (rcases c46' with hh | hh <;> simp only [hh, sameB, h2, h4, h6, h8, h10, h12, h14, h16, h18, h20, h22, h24, c46]; done)
    exact (by first | rfl | rw [x48])
  rw [Bool.not_eq_false'] at c46
  have c46' := c46
  refine wp_skip (hK41 _ _ ?_)
  refine wp_seq_k fun K49 hK49 => ?_
  refine wp_seq_k fun K50 hK50 => ?_
  refine wp_region_lit ?_
  refine q_is (l' := [(.agg #[(Fl r1), (Fl r3), (Fl r5), (Fl r7), (Fl r9), (Fl r11)]), (.agg #[(Fl r13), (Fl r15), (Fl r17), (Fl r19), (Fl r21), (Fl r23)]), (Pt b26 0), (Pt b33 0), (Bo false), (Pt b26 0), (.agg #[(Fl r1), (Fl r3), (Fl r5)]), (Pt b33 0), (.agg #[(Fl r13), (Fl r15), (Fl r17)]), (Bo (sameV A_a.lo A_b.lo)), (Bo (!(sameV A_a.lo A_b.lo))), (Pt b26 3), Ud, Ud, Ud, Ud, Ud]) rfl rfl (does_fieldAddr (ev rfl) fa33_1) rfl ?_
  refine q_is (l' := [(.agg #[(Fl r1), (Fl r3), (Fl r5), (Fl r7), (Fl r9), (Fl r11)]), (.agg #[(Fl r13), (Fl r15), (Fl r17), (Fl r19), (Fl r21), (Fl r23)]), (Pt b26 0), (Pt b33 0), (Bo false), (Pt b26 0), (.agg #[(Fl r1), (Fl r3), (Fl r5)]), (Pt b33 0), (.agg #[(Fl r13), (Fl r15), (Fl r17)]), (Bo (sameV A_a.lo A_b.lo)), (Bo (!(sameV A_a.lo A_b.lo))), (Pt b26 3), (.agg #[(Fl r7), (Fl r9), (Fl r11)]), Ud, Ud, Ud, Ud]) rfl rfl (does_loadAgg (cs := [(Fl r7), (Fl r9), (Fl r11)]) (ev rfl) Try.isAgg31 Try.sizeOf31 (Cells.sub (Blk.cells ((hB28.ext E36).ext E43)) 3 3) rfl) rfl ?_
  refine q_is (l' := [(.agg #[(Fl r1), (Fl r3), (Fl r5), (Fl r7), (Fl r9), (Fl r11)]), (.agg #[(Fl r13), (Fl r15), (Fl r17), (Fl r19), (Fl r21), (Fl r23)]), (Pt b26 0), (Pt b33 0), (Bo false), (Pt b26 0), (.agg #[(Fl r1), (Fl r3), (Fl r5)]), (Pt b33 0), (.agg #[(Fl r13), (Fl r15), (Fl r17)]), (Bo (sameV A_a.lo A_b.lo)), (Bo (!(sameV A_a.lo A_b.lo))), (Pt b26 3), (.agg #[(Fl r7), (Fl r9), (Fl r11)]), (Pt b33 3), Ud, Ud, Ud]) rfl rfl (does_fieldAddr (ev rfl) fa33_1) rfl ?_
  refine q_is (l' := [(.agg #[(Fl r1), (Fl r3), (Fl r5), (Fl r7), (Fl r9), (Fl r11)]), (.agg #[(Fl r13), (Fl r15), (Fl r17), (Fl r19), (Fl r21), (Fl r23)]), (Pt b26 0), (Pt b33 0), (Bo false), (Pt b26 0), (.agg #[(Fl r1), (Fl r3), (Fl r5)]), (Pt b33 0), (.agg #[(Fl r13), (Fl r15), (Fl r17)]), (Bo (sameV A_a.lo A_b.lo)), (Bo (!(sameV A_a.lo A_b.lo))), (Pt b26 3), (.agg #[(Fl r7), (Fl r9), (Fl r11)]), (Pt b33 3), (.agg #[(Fl r19), (Fl r21), (Fl r23)]), Ud, Ud]) rfl rfl (does_loadAgg (cs := [(Fl r19), (Fl r21), (Fl r23)]) (ev rfl) Try.isAgg31 Try.sizeOf31 (Cells.sub (Blk.cells (hB35.ext E43)) 3 3) rfl) rfl ?_
  refine seqd rfl rfl (does_call (args := #[(.agg #[(Fl r7), (Fl r9), (Fl r11)]), (.agg #[(Fl r19), (Fl r21), (Fl r23)])]) cal29 (evs rfl) (c_laws_eqVector [(Fl r7), (Fl r9), (Fl r11)] A_a.hi [(Fl r19), (Fl r21), (Fl r23)] A_b.hi _ ⟨r7, r9, r11, rfl, h8, h10, h12⟩ ⟨r19, r21, r23, rfl, h20, h22, h24⟩)) ?_; rintro _ w52 ⟨E51, rfl⟩
  have X53 := Ext.gr X45 E51
  show wpList _ _ _ _ (fr [(.agg #[(Fl r1), (Fl r3), (Fl r5), (Fl r7), (Fl r9), (Fl r11)]), (.agg #[(Fl r13), (Fl r15), (Fl r17), (Fl r19), (Fl r21), (Fl r23)]), (Pt b26 0), (Pt b33 0), (Bo false), (Pt b26 0), (.agg #[(Fl r1), (Fl r3), (Fl r5)]), (Pt b33 0), (.agg #[(Fl r13), (Fl r15), (Fl r17)]), (Bo (sameV A_a.lo A_b.lo)), (Bo (!(sameV A_a.lo A_b.lo))), (Pt b26 3), (.agg #[(Fl r7), (Fl r9), (Fl r11)]), (Pt b33 3), (.agg #[(Fl r19), (Fl r21), (Fl r23)]), (Bo (sameV A_a.hi A_b.hi)), Ud]) _
  refine q_is (l' := [(.agg #[(Fl r1), (Fl r3), (Fl r5), (Fl r7), (Fl r9), (Fl r11)]), (.agg #[(Fl r13), (Fl r15), (Fl r17), (Fl r19), (Fl r21), (Fl r23)]), (Pt b26 0), (Pt b33 0), (Bo false), (Pt b26 0), (.agg #[(Fl r1), (Fl r3), (Fl r5)]), (Pt b33 0), (.agg #[(Fl r13), (Fl r15), (Fl r17)]), (Bo (sameV A_a.lo A_b.lo)), (Bo (!(sameV A_a.lo A_b.lo))), (Pt b26 3), (.agg #[(Fl r7), (Fl r9), (Fl r11)]), (Pt b33 3), (.agg #[(Fl r19), (Fl r21), (Fl r23)]), (Bo (sameV A_a.hi A_b.hi)), (Bo (!(sameV A_a.hi A_b.hi)))]) rfl rfl (does_not (ev rfl)) rfl ?_
  refine wpList_nil (hK50 _ _ ?_)
  refine wp_cond_split (t := !(sameV A_a.hi A_b.hi)) (ev rfl) (fun c54 => ?_) (fun c54 => ?_)
  · rw [Bool.not_eq_true'] at c54
    have c54' := c54
    refine wp_seq_k fun K55 hK55 => ?_
    refine wp_region_lit ?_
    refine q_is (l' := [(.agg #[(Fl r1), (Fl r3), (Fl r5), (Fl r7), (Fl r9), (Fl r11)]), (.agg #[(Fl r13), (Fl r15), (Fl r17), (Fl r19), (Fl r21), (Fl r23)]), (Pt b26 0), (Pt b33 0), (Bo false), (Pt b26 0), (.agg #[(Fl r1), (Fl r3), (Fl r5)]), (Pt b33 0), (.agg #[(Fl r13), (Fl r15), (Fl r17)]), (Bo (sameV A_a.lo A_b.lo)), (Bo (!(sameV A_a.lo A_b.lo))), (Pt b26 3), (.agg #[(Fl r7), (Fl r9), (Fl r11)]), (Pt b33 3), (.agg #[(Fl r19), (Fl r21), (Fl r23)]), (Bo (sameV A_a.hi A_b.hi)), (Bo (!(sameV A_a.hi A_b.hi)))]) rfl rfl (does_assign (u := (Bo false)) (ev rfl)) rfl ?_
    refine wpList_nil (hK55 _ _ ?_)
    refine wp_ret ?_
    dsimp only [Exit.then, Exit.inBlock]
    refine ret_val (v := (Bo false)) (res_T rfl (slot rfl)) X53 ?_
    try simp only [h2, h4, h6, h8, h10, h12, h14, h16, h18, h20, h22, h24] at c46 c54
    have x56 : (sameB A_a A_b) = false := by first | rfl | (simp only [sameB, h2, h4, h6, h8, h10, h12, h14, h16, h18, h20, h22, h24, c46, c54]; done) | (simp [sameB, h2, h4, h6, h8, h10, h12, h14, h16, h18, h20, h22, h24, c46, c54]; done) | (revert c46 c54; simp +contextual [sameB, h2, h4, h6, h8, h10, h12, h14, h16, h18, h20, h22, h24]; done) | (rcases c46' with hh | hh <;> simp only [hh, sameB, h2, h4, h6, h8, h10, h12, h14, h16, h18, h20, h22, h24, c46, c54]; done) | (rcases c54' with hh | hh <;> simp only [hh, sameB, h2, h4, h6, h8, h10, h12, h14, h16, h18, h20, h22, h24, c46, c54]; done)
    exact (by first | rfl | rw [x56])
  rw [Bool.not_eq_false'] at c54
  have c54' := c54
  refine wp_skip (hK49 _ _ ?_)
  refine wp_seq_k fun K57 hK57 => ?_
  refine wp_region_lit ?_
  refine q_is (l' := [(.agg #[(Fl r1), (Fl r3), (Fl r5), (Fl r7), (Fl r9), (Fl r11)]), (.agg #[(Fl r13), (Fl r15), (Fl r17), (Fl r19), (Fl r21), (Fl r23)]), (Pt b26 0), (Pt b33 0), (Bo true), (Pt b26 0), (.agg #[(Fl r1), (Fl r3), (Fl r5)]), (Pt b33 0), (.agg #[(Fl r13), (Fl r15), (Fl r17)]), (Bo (sameV A_a.lo A_b.lo)), (Bo (!(sameV A_a.lo A_b.lo))), (Pt b26 3), (.agg #[(Fl r7), (Fl r9), (Fl r11)]), (Pt b33 3), (.agg #[(Fl r19), (Fl r21), (Fl r23)]), (Bo (sameV A_a.hi A_b.hi)), (Bo (!(sameV A_a.hi A_b.hi)))]) rfl rfl (does_assign (u := (Bo true)) (ev rfl)) rfl ?_
  refine wpList_nil (hK57 _ _ ?_)
  refine wp_ret ?_
  refine ret_val (v := (Bo true)) (res_T rfl (slot rfl)) X53 ?_
  try simp only [h2, h4, h6, h8, h10, h12, h14, h16, h18, h20, h22, h24] at c46 c54
  have x58 : (sameB A_a A_b) = true := by first | rfl | (simp only [sameB, h2, h4, h6, h8, h10, h12, h14, h16, h18, h20, h22, h24, c46, c54]; done) | (simp [sameB, h2, h4, h6, h8, h10, h12, h14, h16, h18, h20, h22, h24, c46, c54]; done) | (revert c46 c54; simp +contextual [sameB, h2, h4, h6, h8, h10, h12, h14, h16, h18, h20, h22, h24]; done) | (rcases c46' with hh | hh <;> simp only [hh, sameB, h2, h4, h6, h8, h10, h12, h14, h16, h18, h20, h22, h24, c46, c54]; done) | (rcases c54' with hh | hh <;> simp only [hh, sameB, h2, h4, h6, h8, h10, h12, h14, h16, h18, h20, h22, h24, c46, c54]; done)
  exact (by first | rfl | rw [x58])

/- laws.FnExactGrowBox -/
theorem c_laws_FnExactGrowBox (b : List Value) (A_b : Bx) (k : Nat) (w : World) (hv_b : RBx w A_b b) : Gives Try.prog 11 #[(.agg b.toArray), (Fl k)] w (fun v w' => v = (Bo true)) := by
  obtain ⟨r1, r3, r5, r7, r9, r11, rfl, h2, h4, h6, h8, h10, h12⟩ := hv_b
  refine enter [(.agg #[(Fl r1), (Fl r3), (Fl r5), (Fl r7), (Fl r9), (Fl r11)]), (Fl k), Ud, Ud, Ud, Ud, Ud, Ud, Ud, Ud, Ud, Ud, Ud, Ud, Ud, Ud, Ud, Ud, Ud, Ud, Ud, Ud, Ud, Ud, Ud, Ud, Ud, Ud, Ud, Ud, Ud, Ud] Try.func11 rfl Try.ntmps11 rfl ?_
  refine wp_seq_k fun K13 hK13 => ?_
  refine wp_region_lit ?_
  refine seqd rfl rfl (does_box (u := (.agg #[(Fl r1), (Fl r3), (Fl r5), (Fl r7), (Fl r9), (Fl r11)])) (ev rfl)) ?_; rintro _ w18 ⟨b14, rfl, hb15, hB16, E17⟩
  have g19 : w.heap.size ≤ b14 := Nat.le_trans (Below.size (Ext.refl w)) hb15
  change Blk _ _ [(Fl r1), (Fl r3), (Fl r5), (Fl r7), (Fl r9), (Fl r11)] at hB16
  have X20 := Ext.gr (Ext.refl w) E17
  show wpList _ _ _ _ (fr [(.agg #[(Fl r1), (Fl r3), (Fl r5), (Fl r7), (Fl r9), (Fl r11)]), (Fl k), (Pt b14 0), Ud, Ud, Ud, Ud, Ud, Ud, Ud, Ud, Ud, Ud, Ud, Ud, Ud, Ud, Ud, Ud, Ud, Ud, Ud, Ud, Ud, Ud, Ud, Ud, Ud, Ud, Ud, Ud, Ud]) _
  refine q_is (l' := [(.agg #[(Fl r1), (Fl r3), (Fl r5), (Fl r7), (Fl r9), (Fl r11)]), (Fl k), (Pt b14 0), Ud, (Bo false), Ud, Ud, Ud, Ud, Ud, Ud, Ud, Ud, Ud, Ud, Ud, Ud, Ud, Ud, Ud, Ud, Ud, Ud, Ud, Ud, Ud, Ud, Ud, Ud, Ud, Ud, Ud]) rfl rfl (does_assign (u := (Bo false)) (ev rfl)) rfl ?_
  refine wpList_nil (hK13 _ _ ?_)
  refine wp_seq_k fun K21 hK21 => ?_
  refine wp_region_lit ?_
  refine q_is (l' := [(.agg #[(Fl r1), (Fl r3), (Fl r5), (Fl r7), (Fl r9), (Fl r11)]), (Fl k), (Pt b14 0), Ud, (Bo false), Ud, Ud, Ud, Ud, Ud, (.agg #[(Fl r1), (Fl r3), (Fl r5), (Fl r7), (Fl r9), (Fl r11)]), Ud, Ud, Ud, Ud, Ud, Ud, Ud, Ud, Ud, Ud, Ud, Ud, Ud, Ud, Ud, Ud, Ud, Ud, Ud, Ud, Ud]) rfl rfl (does_loadAgg (cs := [(Fl r1), (Fl r3), (Fl r5), (Fl r7), (Fl r9), (Fl r11)]) (ev rfl) Try.isAgg29 Try.sizeOf29 (Blk.cells hB16) rfl) rfl ?_
  refine seqd rfl rfl (does_call (args := #[(.agg #[(Fl r1), (Fl r3), (Fl r5), (Fl r7), (Fl r9), (Fl r11)])]) cal18 (evs rfl) (c_laws_toBox [(Fl r1), (Fl r3), (Fl r5), (Fl r7), (Fl r9), (Fl r11)] A_b _ ⟨r1, r3, r5, r7, r9, r11, rfl, h2, h4, h6, h8, h10, h12⟩)) ?_; rintro _ w23 ⟨E22, ⟨_, rfl, ⟨r24, r26, r28, r30, r32, r34, rfl, h25, h27, h29, h31, h33, h35⟩⟩⟩
  have X36 := Ext.gr X20 E22
  show wpList _ _ _ _ (fr [(.agg #[(Fl r1), (Fl r3), (Fl r5), (Fl r7), (Fl r9), (Fl r11)]), (Fl k), (Pt b14 0), Ud, (Bo false), Ud, Ud, Ud, Ud, Ud, (.agg #[(Fl r1), (Fl r3), (Fl r5), (Fl r7), (Fl r9), (Fl r11)]), (.agg #[(Fl r24), (Fl r26), (Fl r28), (Fl r30), (Fl r32), (Fl r34)]), Ud, Ud, Ud, Ud, Ud, Ud, Ud, Ud, Ud, Ud, Ud, Ud, Ud, Ud, Ud, Ud, Ud, Ud, Ud, Ud]) _
  refine q_is (l' := [(.agg #[(Fl r1), (Fl r3), (Fl r5), (Fl r7), (Fl r9), (Fl r11)]), (Fl k), (Pt b14 0), Ud, (Bo false), Ud, Ud, Ud, Ud, Ud, (.agg #[(Fl r1), (Fl r3), (Fl r5), (Fl r7), (Fl r9), (Fl r11)]), (.agg #[(Fl r24), (Fl r26), (Fl r28), (Fl r30), (Fl r32), (Fl r34)]), (Fl k), Ud, Ud, Ud, Ud, Ud, Ud, Ud, Ud, Ud, Ud, Ud, Ud, Ud, Ud, Ud, Ud, Ud, Ud, Ud]) rfl rfl (does_move (u := (Fl k)) (ev rfl)) rfl ?_
  refine seqd rfl rfl (does_call (args := #[(.agg #[(Fl r24), (Fl r26), (Fl r28), (Fl r30), (Fl r32), (Fl r34)]), (Fl k)]) cal39 (evs rfl) (c_spec_GrowBox [(Fl r24), (Fl r26), (Fl r28), (Fl r30), (Fl r32), (Fl r34)] A_b k _ ⟨r24, r26, r28, r30, r32, r34, rfl, h25, h27, h29, h31, h33, h35⟩)) ?_; rintro _ w38 ⟨E37, ⟨_, rfl, ⟨r39, r41, r43, r45, r47, r49, rfl, h40, h42, h44, h46, h48, h50⟩⟩⟩
  have X51 := Ext.gr X36 E37
  show wpList _ _ _ _ (fr [(.agg #[(Fl r1), (Fl r3), (Fl r5), (Fl r7), (Fl r9), (Fl r11)]), (Fl k), (Pt b14 0), Ud, (Bo false), Ud, Ud, Ud, Ud, Ud, (.agg #[(Fl r1), (Fl r3), (Fl r5), (Fl r7), (Fl r9), (Fl r11)]), (.agg #[(Fl r24), (Fl r26), (Fl r28), (Fl r30), (Fl r32), (Fl r34)]), (Fl k), (.tuple #[(.agg #[(Fl r39), (Fl r41), (Fl r43), (Fl r45), (Fl r47), (Fl r49)]), (Bo (growOk A_b (cf .f32 k)))]), Ud, Ud, Ud, Ud, Ud, Ud, Ud, Ud, Ud, Ud, Ud, Ud, Ud, Ud, Ud, Ud, Ud, Ud]) _
  refine q_is (l' := [(.agg #[(Fl r1), (Fl r3), (Fl r5), (Fl r7), (Fl r9), (Fl r11)]), (Fl k), (Pt b14 0), Ud, (Bo false), Ud, Ud, Ud, Ud, (.tuple #[(.agg #[(Fl r39), (Fl r41), (Fl r43), (Fl r45), (Fl r47), (Fl r49)]), (Bo (growOk A_b (cf .f32 k)))]), (.agg #[(Fl r1), (Fl r3), (Fl r5), (Fl r7), (Fl r9), (Fl r11)]), (.agg #[(Fl r24), (Fl r26), (Fl r28), (Fl r30), (Fl r32), (Fl r34)]), (Fl k), (.tuple #[(.agg #[(Fl r39), (Fl r41), (Fl r43), (Fl r45), (Fl r47), (Fl r49)]), (Bo (growOk A_b (cf .f32 k)))]), Ud, Ud, Ud, Ud, Ud, Ud, Ud, Ud, Ud, Ud, Ud, Ud, Ud, Ud, Ud, Ud, Ud, Ud]) rfl rfl (does_move (u := (.tuple #[(.agg #[(Fl r39), (Fl r41), (Fl r43), (Fl r45), (Fl r47), (Fl r49)]), (Bo (growOk A_b (cf .f32 k)))])) (ev rfl)) rfl ?_
  refine q_is (l' := [(.agg #[(Fl r1), (Fl r3), (Fl r5), (Fl r7), (Fl r9), (Fl r11)]), (Fl k), (Pt b14 0), Ud, (Bo false), Ud, Ud, Ud, Ud, (.tuple #[(.agg #[(Fl r39), (Fl r41), (Fl r43), (Fl r45), (Fl r47), (Fl r49)]), (Bo (growOk A_b (cf .f32 k)))]), (.agg #[(Fl r1), (Fl r3), (Fl r5), (Fl r7), (Fl r9), (Fl r11)]), (.agg #[(Fl r24), (Fl r26), (Fl r28), (Fl r30), (Fl r32), (Fl r34)]), (Fl k), (.tuple #[(.agg #[(Fl r39), (Fl r41), (Fl r43), (Fl r45), (Fl r47), (Fl r49)]), (Bo (growOk A_b (cf .f32 k)))]), (.agg #[(Fl r39), (Fl r41), (Fl r43), (Fl r45), (Fl r47), (Fl r49)]), Ud, Ud, Ud, Ud, Ud, Ud, Ud, Ud, Ud, Ud, Ud, Ud, Ud, Ud, Ud, Ud, Ud]) rfl rfl (does_extract (vs := #[(.agg #[(Fl r39), (Fl r41), (Fl r43), (Fl r45), (Fl r47), (Fl r49)]), (Bo (growOk A_b (cf .f32 k)))]) (u := (.agg #[(Fl r39), (Fl r41), (Fl r43), (Fl r45), (Fl r47), (Fl r49)])) (ev rfl) rfl) rfl ?_
  refine q_is (l' := [(.agg #[(Fl r1), (Fl r3), (Fl r5), (Fl r7), (Fl r9), (Fl r11)]), (Fl k), (Pt b14 0), Ud, (Bo false), Ud, Ud, Ud, Ud, (.tuple #[(.agg #[(Fl r39), (Fl r41), (Fl r43), (Fl r45), (Fl r47), (Fl r49)]), (Bo (growOk A_b (cf .f32 k)))]), (.agg #[(Fl r1), (Fl r3), (Fl r5), (Fl r7), (Fl r9), (Fl r11)]), (.agg #[(Fl r24), (Fl r26), (Fl r28), (Fl r30), (Fl r32), (Fl r34)]), (Fl k), (.tuple #[(.agg #[(Fl r39), (Fl r41), (Fl r43), (Fl r45), (Fl r47), (Fl r49)]), (Bo (growOk A_b (cf .f32 k)))]), (.agg #[(Fl r39), (Fl r41), (Fl r43), (Fl r45), (Fl r47), (Fl r49)]), (Bo (growOk A_b (cf .f32 k))), Ud, Ud, Ud, Ud, Ud, Ud, Ud, Ud, Ud, Ud, Ud, Ud, Ud, Ud, Ud, Ud]) rfl rfl (does_extract (vs := #[(.agg #[(Fl r39), (Fl r41), (Fl r43), (Fl r45), (Fl r47), (Fl r49)]), (Bo (growOk A_b (cf .f32 k)))]) (u := (Bo (growOk A_b (cf .f32 k)))) (ev rfl) rfl) rfl ?_
  refine seqd rfl rfl (does_alloc z33) ?_; rintro _ w56 ⟨b52, rfl, hb53, hB54, E55⟩
  have n57 : b14 < b52 := Nat.lt_of_lt_of_le (Blk.lt ((hB16.ext E22).ext E37)) hb53
  have g58 : w.heap.size ≤ b52 := Nat.le_trans (Below.size X51) hb53
  change Blk _ _ [(Fl 0), (Fl 0), (Fl 0), (Fl 0), (Fl 0), (Fl 0)] at hB54
  have X59 := Ext.gr X51 E55
  show wpList _ _ _ _ (fr [(.agg #[(Fl r1), (Fl r3), (Fl r5), (Fl r7), (Fl r9), (Fl r11)]), (Fl k), (Pt b14 0), Ud, (Bo false), (Pt b52 0), Ud, Ud, Ud, (.tuple #[(.agg #[(Fl r39), (Fl r41), (Fl r43), (Fl r45), (Fl r47), (Fl r49)]), (Bo (growOk A_b (cf .f32 k)))]), (.agg #[(Fl r1), (Fl r3), (Fl r5), (Fl r7), (Fl r9), (Fl r11)]), (.agg #[(Fl r24), (Fl r26), (Fl r28), (Fl r30), (Fl r32), (Fl r34)]), (Fl k), (.tuple #[(.agg #[(Fl r39), (Fl r41), (Fl r43), (Fl r45), (Fl r47), (Fl r49)]), (Bo (growOk A_b (cf .f32 k)))]), (.agg #[(Fl r39), (Fl r41), (Fl r43), (Fl r45), (Fl r47), (Fl r49)]), (Bo (growOk A_b (cf .f32 k))), Ud, Ud, Ud, Ud, Ud, Ud, Ud, Ud, Ud, Ud, Ud, Ud, Ud, Ud, Ud, Ud]) _
  refine seqn rfl rfl (does_store (n := 6) (cs := [(Fl 0), (Fl 0), (Fl 0), (Fl 0), (Fl 0), (Fl 0)]) (u := (.agg #[(Fl r39), (Fl r41), (Fl r43), (Fl r45), (Fl r47), (Fl r49)])) (ev rfl) (ev rfl) Try.sizeOf33 rfl hB54 (Nat.le_of_ble_eq_true rfl) rfl) ?_; rintro _ w62 ⟨rfl, W60, hB61⟩
  change Blk _ _ [(Fl r39), (Fl r41), (Fl r43), (Fl r45), (Fl r47), (Fl r49)] at hB61
  have X63 := Below.wr X59 W60 g58
  refine q_is (l' := [(.agg #[(Fl r1), (Fl r3), (Fl r5), (Fl r7), (Fl r9), (Fl r11)]), (Fl k), (Pt b14 0), Ud, (Bo false), (Pt b52 0), (Bo (growOk A_b (cf .f32 k))), Ud, Ud, (.tuple #[(.agg #[(Fl r39), (Fl r41), (Fl r43), (Fl r45), (Fl r47), (Fl r49)]), (Bo (growOk A_b (cf .f32 k)))]), (.agg #[(Fl r1), (Fl r3), (Fl r5), (Fl r7), (Fl r9), (Fl r11)]), (.agg #[(Fl r24), (Fl r26), (Fl r28), (Fl r30), (Fl r32), (Fl r34)]), (Fl k), (.tuple #[(.agg #[(Fl r39), (Fl r41), (Fl r43), (Fl r45), (Fl r47), (Fl r49)]), (Bo (growOk A_b (cf .f32 k)))]), (.agg #[(Fl r39), (Fl r41), (Fl r43), (Fl r45), (Fl r47), (Fl r49)]), (Bo (growOk A_b (cf .f32 k))), Ud, Ud, Ud, Ud, Ud, Ud, Ud, Ud, Ud, Ud, Ud, Ud, Ud, Ud, Ud, Ud]) rfl rfl (does_assign (u := (Bo (growOk A_b (cf .f32 k)))) (ev rfl)) rfl ?_
  refine wpList_nil (hK21 _ _ ?_)
  refine wp_seq_k fun K64 hK64 => ?_
  refine wp_region_lit ?_
  refine q_is (l' := [(.agg #[(Fl r1), (Fl r3), (Fl r5), (Fl r7), (Fl r9), (Fl r11)]), (Fl k), (Pt b14 0), Ud, (Bo false), (Pt b52 0), (Bo (growOk A_b (cf .f32 k))), Ud, Ud, (.tuple #[(.agg #[(Fl r39), (Fl r41), (Fl r43), (Fl r45), (Fl r47), (Fl r49)]), (Bo (growOk A_b (cf .f32 k)))]), (.agg #[(Fl r1), (Fl r3), (Fl r5), (Fl r7), (Fl r9), (Fl r11)]), (.agg #[(Fl r24), (Fl r26), (Fl r28), (Fl r30), (Fl r32), (Fl r34)]), (Fl k), (.tuple #[(.agg #[(Fl r39), (Fl r41), (Fl r43), (Fl r45), (Fl r47), (Fl r49)]), (Bo (growOk A_b (cf .f32 k)))]), (.agg #[(Fl r39), (Fl r41), (Fl r43), (Fl r45), (Fl r47), (Fl r49)]), (Bo (growOk A_b (cf .f32 k))), Ud, (.agg #[(Fl r1), (Fl r3), (Fl r5), (Fl r7), (Fl r9), (Fl r11)]), Ud, Ud, Ud, Ud, Ud, Ud, Ud, Ud, Ud, Ud, Ud, Ud, Ud, Ud]) rfl rfl (does_loadAgg (cs := [(Fl r1), (Fl r3), (Fl r5), (Fl r7), (Fl r9), (Fl r11)]) (ev rfl) Try.isAgg29 Try.sizeOf29 (Blk.cells ((((hB16.ext E22).ext E37).ext E55).wr W60 (Nat.ne_of_lt n57))) rfl) rfl ?_
  refine seqd rfl rfl (does_call (args := #[(.agg #[(Fl r1), (Fl r3), (Fl r5), (Fl r7), (Fl r9), (Fl r11)])]) cal18 (evs rfl) (c_laws_toBox [(Fl r1), (Fl r3), (Fl r5), (Fl r7), (Fl r9), (Fl r11)] A_b _ ⟨r1, r3, r5, r7, r9, r11, rfl, h2, h4, h6, h8, h10, h12⟩)) ?_; rintro _ w66 ⟨E65, ⟨_, rfl, ⟨r67, r69, r71, r73, r75, r77, rfl, h68, h70, h72, h74, h76, h78⟩⟩⟩
  have X79 := Ext.gr X63 E65
  show wpList _ _ _ _ (fr [(.agg #[(Fl r1), (Fl r3), (Fl r5), (Fl r7), (Fl r9), (Fl r11)]), (Fl k), (Pt b14 0), Ud, (Bo false), (Pt b52 0), (Bo (growOk A_b (cf .f32 k))), Ud, Ud, (.tuple #[(.agg #[(Fl r39), (Fl r41), (Fl r43), (Fl r45), (Fl r47), (Fl r49)]), (Bo (growOk A_b (cf .f32 k)))]), (.agg #[(Fl r1), (Fl r3), (Fl r5), (Fl r7), (Fl r9), (Fl r11)]), (.agg #[(Fl r24), (Fl r26), (Fl r28), (Fl r30), (Fl r32), (Fl r34)]), (Fl k), (.tuple #[(.agg #[(Fl r39), (Fl r41), (Fl r43), (Fl r45), (Fl r47), (Fl r49)]), (Bo (growOk A_b (cf .f32 k)))]), (.agg #[(Fl r39), (Fl r41), (Fl r43), (Fl r45), (Fl r47), (Fl r49)]), (Bo (growOk A_b (cf .f32 k))), Ud, (.agg #[(Fl r1), (Fl r3), (Fl r5), (Fl r7), (Fl r9), (Fl r11)]), (.agg #[(Fl r67), (Fl r69), (Fl r71), (Fl r73), (Fl r75), (Fl r77)]), Ud, Ud, Ud, Ud, Ud, Ud, Ud, Ud, Ud, Ud, Ud, Ud, Ud]) _
  refine q_is (l' := [(.agg #[(Fl r1), (Fl r3), (Fl r5), (Fl r7), (Fl r9), (Fl r11)]), (Fl k), (Pt b14 0), Ud, (Bo false), (Pt b52 0), (Bo (growOk A_b (cf .f32 k))), Ud, Ud, (.tuple #[(.agg #[(Fl r39), (Fl r41), (Fl r43), (Fl r45), (Fl r47), (Fl r49)]), (Bo (growOk A_b (cf .f32 k)))]), (.agg #[(Fl r1), (Fl r3), (Fl r5), (Fl r7), (Fl r9), (Fl r11)]), (.agg #[(Fl r24), (Fl r26), (Fl r28), (Fl r30), (Fl r32), (Fl r34)]), (Fl k), (.tuple #[(.agg #[(Fl r39), (Fl r41), (Fl r43), (Fl r45), (Fl r47), (Fl r49)]), (Bo (growOk A_b (cf .f32 k)))]), (.agg #[(Fl r39), (Fl r41), (Fl r43), (Fl r45), (Fl r47), (Fl r49)]), (Bo (growOk A_b (cf .f32 k))), Ud, (.agg #[(Fl r1), (Fl r3), (Fl r5), (Fl r7), (Fl r9), (Fl r11)]), (.agg #[(Fl r67), (Fl r69), (Fl r71), (Fl r73), (Fl r75), (Fl r77)]), (Fl k), Ud, Ud, Ud, Ud, Ud, Ud, Ud, Ud, Ud, Ud, Ud, Ud]) rfl rfl (does_move (u := (Fl k)) (ev rfl)) rfl ?_
  refine seqd rfl rfl (does_call (args := #[(.agg #[(Fl r67), (Fl r69), (Fl r71), (Fl r73), (Fl r75), (Fl r77)]), (Fl k)]) cal40 (evs rfl) (c_impl_GrowBox [(Fl r67), (Fl r69), (Fl r71), (Fl r73), (Fl r75), (Fl r77)] A_b k _ ⟨r67, r69, r71, r73, r75, r77, rfl, h68, h70, h72, h74, h76, h78⟩)) ?_; rintro _ w81 ⟨E80, ⟨_, rfl, ⟨r82, r84, r86, r88, r90, r92, rfl, h83, h85, h87, h89, h91, h93⟩⟩⟩
  have X94 := Ext.gr X79 E80
  show wpList _ _ _ _ (fr [(.agg #[(Fl r1), (Fl r3), (Fl r5), (Fl r7), (Fl r9), (Fl r11)]), (Fl k), (Pt b14 0), Ud, (Bo false), (Pt b52 0), (Bo (growOk A_b (cf .f32 k))), Ud, Ud, (.tuple #[(.agg #[(Fl r39), (Fl r41), (Fl r43), (Fl r45), (Fl r47), (Fl r49)]), (Bo (growOk A_b (cf .f32 k)))]), (.agg #[(Fl r1), (Fl r3), (Fl r5), (Fl r7), (Fl r9), (Fl r11)]), (.agg #[(Fl r24), (Fl r26), (Fl r28), (Fl r30), (Fl r32), (Fl r34)]), (Fl k), (.tuple #[(.agg #[(Fl r39), (Fl r41), (Fl r43), (Fl r45), (Fl r47), (Fl r49)]), (Bo (growOk A_b (cf .f32 k)))]), (.agg #[(Fl r39), (Fl r41), (Fl r43), (Fl r45), (Fl r47), (Fl r49)]), (Bo (growOk A_b (cf .f32 k))), Ud, (.agg #[(Fl r1), (Fl r3), (Fl r5), (Fl r7), (Fl r9), (Fl r11)]), (.agg #[(Fl r67), (Fl r69), (Fl r71), (Fl r73), (Fl r75), (Fl r77)]), (Fl k), (.tuple #[(.agg #[(Fl r82), (Fl r84), (Fl r86), (Fl r88), (Fl r90), (Fl r92)]), (Bo (growOk A_b (cf .f32 k)))]), Ud, Ud, Ud, Ud, Ud, Ud, Ud, Ud, Ud, Ud, Ud]) _
  refine q_is (l' := [(.agg #[(Fl r1), (Fl r3), (Fl r5), (Fl r7), (Fl r9), (Fl r11)]), (Fl k), (Pt b14 0), Ud, (Bo false), (Pt b52 0), (Bo (growOk A_b (cf .f32 k))), Ud, Ud, (.tuple #[(.agg #[(Fl r39), (Fl r41), (Fl r43), (Fl r45), (Fl r47), (Fl r49)]), (Bo (growOk A_b (cf .f32 k)))]), (.agg #[(Fl r1), (Fl r3), (Fl r5), (Fl r7), (Fl r9), (Fl r11)]), (.agg #[(Fl r24), (Fl r26), (Fl r28), (Fl r30), (Fl r32), (Fl r34)]), (Fl k), (.tuple #[(.agg #[(Fl r39), (Fl r41), (Fl r43), (Fl r45), (Fl r47), (Fl r49)]), (Bo (growOk A_b (cf .f32 k)))]), (.agg #[(Fl r39), (Fl r41), (Fl r43), (Fl r45), (Fl r47), (Fl r49)]), (Bo (growOk A_b (cf .f32 k))), (.tuple #[(.agg #[(Fl r82), (Fl r84), (Fl r86), (Fl r88), (Fl r90), (Fl r92)]), (Bo (growOk A_b (cf .f32 k)))]), (.agg #[(Fl r1), (Fl r3), (Fl r5), (Fl r7), (Fl r9), (Fl r11)]), (.agg #[(Fl r67), (Fl r69), (Fl r71), (Fl r73), (Fl r75), (Fl r77)]), (Fl k), (.tuple #[(.agg #[(Fl r82), (Fl r84), (Fl r86), (Fl r88), (Fl r90), (Fl r92)]), (Bo (growOk A_b (cf .f32 k)))]), Ud, Ud, Ud, Ud, Ud, Ud, Ud, Ud, Ud, Ud, Ud]) rfl rfl (does_move (u := (.tuple #[(.agg #[(Fl r82), (Fl r84), (Fl r86), (Fl r88), (Fl r90), (Fl r92)]), (Bo (growOk A_b (cf .f32 k)))])) (ev rfl)) rfl ?_
  refine q_is (l' := [(.agg #[(Fl r1), (Fl r3), (Fl r5), (Fl r7), (Fl r9), (Fl r11)]), (Fl k), (Pt b14 0), Ud, (Bo false), (Pt b52 0), (Bo (growOk A_b (cf .f32 k))), Ud, Ud, (.tuple #[(.agg #[(Fl r39), (Fl r41), (Fl r43), (Fl r45), (Fl r47), (Fl r49)]), (Bo (growOk A_b (cf .f32 k)))]), (.agg #[(Fl r1), (Fl r3), (Fl r5), (Fl r7), (Fl r9), (Fl r11)]), (.agg #[(Fl r24), (Fl r26), (Fl r28), (Fl r30), (Fl r32), (Fl r34)]), (Fl k), (.tuple #[(.agg #[(Fl r39), (Fl r41), (Fl r43), (Fl r45), (Fl r47), (Fl r49)]), (Bo (growOk A_b (cf .f32 k)))]), (.agg #[(Fl r39), (Fl r41), (Fl r43), (Fl r45), (Fl r47), (Fl r49)]), (Bo (growOk A_b (cf .f32 k))), (.tuple #[(.agg #[(Fl r82), (Fl r84), (Fl r86), (Fl r88), (Fl r90), (Fl r92)]), (Bo (growOk A_b (cf .f32 k)))]), (.agg #[(Fl r1), (Fl r3), (Fl r5), (Fl r7), (Fl r9), (Fl r11)]), (.agg #[(Fl r67), (Fl r69), (Fl r71), (Fl r73), (Fl r75), (Fl r77)]), (Fl k), (.tuple #[(.agg #[(Fl r82), (Fl r84), (Fl r86), (Fl r88), (Fl r90), (Fl r92)]), (Bo (growOk A_b (cf .f32 k)))]), (.agg #[(Fl r82), (Fl r84), (Fl r86), (Fl r88), (Fl r90), (Fl r92)]), Ud, Ud, Ud, Ud, Ud, Ud, Ud, Ud, Ud, Ud]) rfl rfl (does_extract (vs := #[(.agg #[(Fl r82), (Fl r84), (Fl r86), (Fl r88), (Fl r90), (Fl r92)]), (Bo (growOk A_b (cf .f32 k)))]) (u := (.agg #[(Fl r82), (Fl r84), (Fl r86), (Fl r88), (Fl r90), (Fl r92)])) (ev rfl) rfl) rfl ?_
  refine q_is (l' := [(.agg #[(Fl r1), (Fl r3), (Fl r5), (Fl r7), (Fl r9), (Fl r11)]), (Fl k), (Pt b14 0), Ud, (Bo false), (Pt b52 0), (Bo (growOk A_b (cf .f32 k))), Ud, Ud, (.tuple #[(.agg #[(Fl r39), (Fl r41), (Fl r43), (Fl r45), (Fl r47), (Fl r49)]), (Bo (growOk A_b (cf .f32 k)))]), (.agg #[(Fl r1), (Fl r3), (Fl r5), (Fl r7), (Fl r9), (Fl r11)]), (.agg #[(Fl r24), (Fl r26), (Fl r28), (Fl r30), (Fl r32), (Fl r34)]), (Fl k), (.tuple #[(.agg #[(Fl r39), (Fl r41), (Fl r43), (Fl r45), (Fl r47), (Fl r49)]), (Bo (growOk A_b (cf .f32 k)))]), (.agg #[(Fl r39), (Fl r41), (Fl r43), (Fl r45), (Fl r47), (Fl r49)]), (Bo (growOk A_b (cf .f32 k))), (.tuple #[(.agg #[(Fl r82), (Fl r84), (Fl r86), (Fl r88), (Fl r90), (Fl r92)]), (Bo (growOk A_b (cf .f32 k)))]), (.agg #[(Fl r1), (Fl r3), (Fl r5), (Fl r7), (Fl r9), (Fl r11)]), (.agg #[(Fl r67), (Fl r69), (Fl r71), (Fl r73), (Fl r75), (Fl r77)]), (Fl k), (.tuple #[(.agg #[(Fl r82), (Fl r84), (Fl r86), (Fl r88), (Fl r90), (Fl r92)]), (Bo (growOk A_b (cf .f32 k)))]), (.agg #[(Fl r82), (Fl r84), (Fl r86), (Fl r88), (Fl r90), (Fl r92)]), (Bo (growOk A_b (cf .f32 k))), Ud, Ud, Ud, Ud, Ud, Ud, Ud, Ud, Ud]) rfl rfl (does_extract (vs := #[(.agg #[(Fl r82), (Fl r84), (Fl r86), (Fl r88), (Fl r90), (Fl r92)]), (Bo (growOk A_b (cf .f32 k)))]) (u := (Bo (growOk A_b (cf .f32 k)))) (ev rfl) rfl) rfl ?_
  refine seqd rfl rfl (does_alloc z33) ?_; rintro _ w99 ⟨b95, rfl, hb96, hB97, E98⟩
  have n100 : b14 < b95 := Nat.lt_of_lt_of_le (Blk.lt ((((((hB16.ext E22).ext E37).ext E55).wr W60 (Nat.ne_of_lt n57)).ext E65).ext E80)) hb96
  have n101 : b52 < b95 := Nat.lt_of_lt_of_le (Blk.lt ((hB61.ext E65).ext E80)) hb96
  have g102 : w.heap.size ≤ b95 := Nat.le_trans (Below.size X94) hb96
  change Blk _ _ [(Fl 0), (Fl 0), (Fl 0), (Fl 0), (Fl 0), (Fl 0)] at hB97
  have X103 := Ext.gr X94 E98
  show wpList _ _ _ _ (fr [(.agg #[(Fl r1), (Fl r3), (Fl r5), (Fl r7), (Fl r9), (Fl r11)]), (Fl k), (Pt b14 0), Ud, (Bo false), (Pt b52 0), (Bo (growOk A_b (cf .f32 k))), (Pt b95 0), Ud, (.tuple #[(.agg #[(Fl r39), (Fl r41), (Fl r43), (Fl r45), (Fl r47), (Fl r49)]), (Bo (growOk A_b (cf .f32 k)))]), (.agg #[(Fl r1), (Fl r3), (Fl r5), (Fl r7), (Fl r9), (Fl r11)]), (.agg #[(Fl r24), (Fl r26), (Fl r28), (Fl r30), (Fl r32), (Fl r34)]), (Fl k), (.tuple #[(.agg #[(Fl r39), (Fl r41), (Fl r43), (Fl r45), (Fl r47), (Fl r49)]), (Bo (growOk A_b (cf .f32 k)))]), (.agg #[(Fl r39), (Fl r41), (Fl r43), (Fl r45), (Fl r47), (Fl r49)]), (Bo (growOk A_b (cf .f32 k))), (.tuple #[(.agg #[(Fl r82), (Fl r84), (Fl r86), (Fl r88), (Fl r90), (Fl r92)]), (Bo (growOk A_b (cf .f32 k)))]), (.agg #[(Fl r1), (Fl r3), (Fl r5), (Fl r7), (Fl r9), (Fl r11)]), (.agg #[(Fl r67), (Fl r69), (Fl r71), (Fl r73), (Fl r75), (Fl r77)]), (Fl k), (.tuple #[(.agg #[(Fl r82), (Fl r84), (Fl r86), (Fl r88), (Fl r90), (Fl r92)]), (Bo (growOk A_b (cf .f32 k)))]), (.agg #[(Fl r82), (Fl r84), (Fl r86), (Fl r88), (Fl r90), (Fl r92)]), (Bo (growOk A_b (cf .f32 k))), Ud, Ud, Ud, Ud, Ud, Ud, Ud, Ud, Ud]) _
  refine seqn rfl rfl (does_store (n := 6) (cs := [(Fl 0), (Fl 0), (Fl 0), (Fl 0), (Fl 0), (Fl 0)]) (u := (.agg #[(Fl r82), (Fl r84), (Fl r86), (Fl r88), (Fl r90), (Fl r92)])) (ev rfl) (ev rfl) Try.sizeOf33 rfl hB97 (Nat.le_of_ble_eq_true rfl) rfl) ?_; rintro _ w106 ⟨rfl, W104, hB105⟩
  change Blk _ _ [(Fl r82), (Fl r84), (Fl r86), (Fl r88), (Fl r90), (Fl r92)] at hB105
  have X107 := Below.wr X103 W104 g102
  refine q_is (l' := [(.agg #[(Fl r1), (Fl r3), (Fl r5), (Fl r7), (Fl r9), (Fl r11)]), (Fl k), (Pt b14 0), Ud, (Bo false), (Pt b52 0), (Bo (growOk A_b (cf .f32 k))), (Pt b95 0), (Bo (growOk A_b (cf .f32 k))), (.tuple #[(.agg #[(Fl r39), (Fl r41), (Fl r43), (Fl r45), (Fl r47), (Fl r49)]), (Bo (growOk A_b (cf .f32 k)))]), (.agg #[(Fl r1), (Fl r3), (Fl r5), (Fl r7), (Fl r9), (Fl r11)]), (.agg #[(Fl r24), (Fl r26), (Fl r28), (Fl r30), (Fl r32), (Fl r34)]), (Fl k), (.tuple #[(.agg #[(Fl r39), (Fl r41), (Fl r43), (Fl r45), (Fl r47), (Fl r49)]), (Bo (growOk A_b (cf .f32 k)))]), (.agg #[(Fl r39), (Fl r41), (Fl r43), (Fl r45), (Fl r47), (Fl r49)]), (Bo (growOk A_b (cf .f32 k))), (.tuple #[(.agg #[(Fl r82), (Fl r84), (Fl r86), (Fl r88), (Fl r90), (Fl r92)]), (Bo (growOk A_b (cf .f32 k)))]), (.agg #[(Fl r1), (Fl r3), (Fl r5), (Fl r7), (Fl r9), (Fl r11)]), (.agg #[(Fl r67), (Fl r69), (Fl r71), (Fl r73), (Fl r75), (Fl r77)]), (Fl k), (.tuple #[(.agg #[(Fl r82), (Fl r84), (Fl r86), (Fl r88), (Fl r90), (Fl r92)]), (Bo (growOk A_b (cf .f32 k)))]), (.agg #[(Fl r82), (Fl r84), (Fl r86), (Fl r88), (Fl r90), (Fl r92)]), (Bo (growOk A_b (cf .f32 k))), Ud, Ud, Ud, Ud, Ud, Ud, Ud, Ud, Ud]) rfl rfl (does_assign (u := (Bo (growOk A_b (cf .f32 k)))) (ev rfl)) rfl ?_
  refine wpList_nil (hK64 _ _ ?_)
  refine wp_seq_k fun K108 hK108 => ?_
  refine wp_seq_k fun K109 hK109 => ?_
  obtain ⟨β1, hβ1⟩ : ∃ b : Bool, b = (sameB (gvB (growOk A_b (cf .f32 k)) (growB A_b (cf .f32 k))) (gvB (growOk A_b (cf .f32 k)) (growB A_b (cf .f32 k)))) := ⟨_, rfl⟩
  obtain ⟨β2, hβ2⟩ : ∃ b : Bool, b = ((growOk A_b (cf .f32 k)) != (growOk A_b (cf .f32 k))) := ⟨_, rfl⟩
  refine region_text (
    [Fact.pure [] (fun v => v = (.agg #[(Fl r82), (Fl r84), (Fl r86), (Fl r88), (Fl r90), (Fl r92)])),
    Fact.pure [] (fun v => v = (.agg #[(Fl r39), (Fl r41), (Fl r43), (Fl r45), (Fl r47), (Fl r49)])),
    Fact.pure [23, 24] (fun v => v = (Bo β1)),
    Fact.pure [25] (fun v => v = (Bo (!β1))),
    Fact.pure [26] (fun v => v = (Bo (!β1))),
    Fact.pure [27] (fun v => (!β1) = false → v = (Bo (growOk A_b (cf .f32 k)))),
    Fact.pure [27] (fun v => (!β1) = false → v = (Bo (growOk A_b (cf .f32 k)))),
    Fact.pure [28, 29, 27] (fun v => (!β1) = false → v = (Bo β2)),
    Fact.pure [27, 30] (fun v => v = (Bo ((!β1) || β2)))]) (by simp [Fact.pure, Fact.mem]) ?_
  refine RW_d (fun v110 => [(.agg #[(Fl r1), (Fl r3), (Fl r5), (Fl r7), (Fl r9), (Fl r11)]), (Fl k), (Pt b14 0), Ud, (Bo false), (Pt b52 0), (Bo (growOk A_b (cf .f32 k))), (Pt b95 0), (Bo (growOk A_b (cf .f32 k))), (.tuple #[(.agg #[(Fl r39), (Fl r41), (Fl r43), (Fl r45), (Fl r47), (Fl r49)]), (Bo (growOk A_b (cf .f32 k)))]), (.agg #[(Fl r1), (Fl r3), (Fl r5), (Fl r7), (Fl r9), (Fl r11)]), (.agg #[(Fl r24), (Fl r26), (Fl r28), (Fl r30), (Fl r32), (Fl r34)]), (Fl k), (.tuple #[(.agg #[(Fl r39), (Fl r41), (Fl r43), (Fl r45), (Fl r47), (Fl r49)]), (Bo (growOk A_b (cf .f32 k)))]), (.agg #[(Fl r39), (Fl r41), (Fl r43), (Fl r45), (Fl r47), (Fl r49)]), (Bo (growOk A_b (cf .f32 k))), (.tuple #[(.agg #[(Fl r82), (Fl r84), (Fl r86), (Fl r88), (Fl r90), (Fl r92)]), (Bo (growOk A_b (cf .f32 k)))]), (.agg #[(Fl r1), (Fl r3), (Fl r5), (Fl r7), (Fl r9), (Fl r11)]), (.agg #[(Fl r67), (Fl r69), (Fl r71), (Fl r73), (Fl r75), (Fl r77)]), (Fl k), (.tuple #[(.agg #[(Fl r82), (Fl r84), (Fl r86), (Fl r88), (Fl r90), (Fl r92)]), (Bo (growOk A_b (cf .f32 k)))]), (.agg #[(Fl r82), (Fl r84), (Fl r86), (Fl r88), (Fl r90), (Fl r92)]), (Bo (growOk A_b (cf .f32 k))), v110, Ud, Ud, Ud, Ud, Ud, Ud, Ud, Ud]) rfl (fun _ => rfl) (fun u hu hF => ?_) (fun v110 => ?_)
  · clear hF
    refine doesG_un rfl ?_
    refine (does_loadAgg (cs := [(Fl r82), (Fl r84), (Fl r86), (Fl r88), (Fl r90), (Fl r92)]) (ev rfl) Try.isAgg33 Try.sizeOf33 (Blk.cells (hB105.ext hu)) rfl).mono ?_; rintro _ _ ⟨rfl, rfl⟩
    exact ⟨rfl, Ext.refl _⟩
  refine RW_d (fun v111 => [(.agg #[(Fl r1), (Fl r3), (Fl r5), (Fl r7), (Fl r9), (Fl r11)]), (Fl k), (Pt b14 0), Ud, (Bo false), (Pt b52 0), (Bo (growOk A_b (cf .f32 k))), (Pt b95 0), (Bo (growOk A_b (cf .f32 k))), (.tuple #[(.agg #[(Fl r39), (Fl r41), (Fl r43), (Fl r45), (Fl r47), (Fl r49)]), (Bo (growOk A_b (cf .f32 k)))]), (.agg #[(Fl r1), (Fl r3), (Fl r5), (Fl r7), (Fl r9), (Fl r11)]), (.agg #[(Fl r24), (Fl r26), (Fl r28), (Fl r30), (Fl r32), (Fl r34)]), (Fl k), (.tuple #[(.agg #[(Fl r39), (Fl r41), (Fl r43), (Fl r45), (Fl r47), (Fl r49)]), (Bo (growOk A_b (cf .f32 k)))]), (.agg #[(Fl r39), (Fl r41), (Fl r43), (Fl r45), (Fl r47), (Fl r49)]), (Bo (growOk A_b (cf .f32 k))), (.tuple #[(.agg #[(Fl r82), (Fl r84), (Fl r86), (Fl r88), (Fl r90), (Fl r92)]), (Bo (growOk A_b (cf .f32 k)))]), (.agg #[(Fl r1), (Fl r3), (Fl r5), (Fl r7), (Fl r9), (Fl r11)]), (.agg #[(Fl r67), (Fl r69), (Fl r71), (Fl r73), (Fl r75), (Fl r77)]), (Fl k), (.tuple #[(.agg #[(Fl r82), (Fl r84), (Fl r86), (Fl r88), (Fl r90), (Fl r92)]), (Bo (growOk A_b (cf .f32 k)))]), (.agg #[(Fl r82), (Fl r84), (Fl r86), (Fl r88), (Fl r90), (Fl r92)]), (Bo (growOk A_b (cf .f32 k))), v110, v111, Ud, Ud, Ud, Ud, Ud, Ud, Ud]) rfl (fun _ => rfl) (fun u hu hF => ?_) (fun v111 => ?_)
  · clear hF
    refine doesG_un rfl ?_
    refine (does_loadAgg (cs := [(Fl r39), (Fl r41), (Fl r43), (Fl r45), (Fl r47), (Fl r49)]) (ev rfl) Try.isAgg33 Try.sizeOf33 (Blk.cells (((((hB61.ext E65).ext E80).ext E98).wr W104 (Nat.ne_of_lt n101)).ext hu)) rfl).mono ?_; rintro _ _ ⟨rfl, rfl⟩
    exact ⟨rfl, Ext.refl _⟩
  refine RW_d (fun v112 => [(.agg #[(Fl r1), (Fl r3), (Fl r5), (Fl r7), (Fl r9), (Fl r11)]), (Fl k), (Pt b14 0), Ud, (Bo false), (Pt b52 0), (Bo (growOk A_b (cf .f32 k))), (Pt b95 0), (Bo (growOk A_b (cf .f32 k))), (.tuple #[(.agg #[(Fl r39), (Fl r41), (Fl r43), (Fl r45), (Fl r47), (Fl r49)]), (Bo (growOk A_b (cf .f32 k)))]), (.agg #[(Fl r1), (Fl r3), (Fl r5), (Fl r7), (Fl r9), (Fl r11)]), (.agg #[(Fl r24), (Fl r26), (Fl r28), (Fl r30), (Fl r32), (Fl r34)]), (Fl k), (.tuple #[(.agg #[(Fl r39), (Fl r41), (Fl r43), (Fl r45), (Fl r47), (Fl r49)]), (Bo (growOk A_b (cf .f32 k)))]), (.agg #[(Fl r39), (Fl r41), (Fl r43), (Fl r45), (Fl r47), (Fl r49)]), (Bo (growOk A_b (cf .f32 k))), (.tuple #[(.agg #[(Fl r82), (Fl r84), (Fl r86), (Fl r88), (Fl r90), (Fl r92)]), (Bo (growOk A_b (cf .f32 k)))]), (.agg #[(Fl r1), (Fl r3), (Fl r5), (Fl r7), (Fl r9), (Fl r11)]), (.agg #[(Fl r67), (Fl r69), (Fl r71), (Fl r73), (Fl r75), (Fl r77)]), (Fl k), (.tuple #[(.agg #[(Fl r82), (Fl r84), (Fl r86), (Fl r88), (Fl r90), (Fl r92)]), (Bo (growOk A_b (cf .f32 k)))]), (.agg #[(Fl r82), (Fl r84), (Fl r86), (Fl r88), (Fl r90), (Fl r92)]), (Bo (growOk A_b (cf .f32 k))), v110, v111, v112, Ud, Ud, Ud, Ud, Ud, Ud]) rfl (fun _ => rfl) (fun u hu hF => ?_) (fun v112 => ?_)
  · have h23_ : v110 = (.agg #[(Fl r82), (Fl r84), (Fl r86), (Fl r88), (Fl r90), (Fl r92)]) := hF.1
    have h24_ : v111 = (.agg #[(Fl r39), (Fl r41), (Fl r43), (Fl r45), (Fl r47), (Fl r49)]) := hF.2.1
    clear hF
    obtain rfl := h23_
    obtain rfl := h24_
    refine doesG_un rfl ?_
    refine (does_call (args := #[(.agg #[(Fl r82), (Fl r84), (Fl r86), (Fl r88), (Fl r90), (Fl r92)]), (.agg #[(Fl r39), (Fl r41), (Fl r43), (Fl r45), (Fl r47), (Fl r49)])]) cal41 (evs rfl) (c_laws_eqBox [(Fl r82), (Fl r84), (Fl r86), (Fl r88), (Fl r90), (Fl r92)] (gvB (growOk A_b (cf .f32 k)) (growB A_b (cf .f32 k))) [(Fl r39), (Fl r41), (Fl r43), (Fl r45), (Fl r47), (Fl r49)] (gvB (growOk A_b (cf .f32 k)) (growB A_b (cf .f32 k))) _ ⟨r82, r84, r86, r88, r90, r92, rfl, h83, h85, h87, h89, h91, h93⟩ ⟨r39, r41, r43, r45, r47, r49, rfl, h40, h42, h44, h46, h48, h50⟩)).mono ?_; rintro v u' ⟨hx, hv⟩
    exact ⟨hv.trans (by simp only [hβ1]), hx⟩
  refine RW_d (fun v113 => [(.agg #[(Fl r1), (Fl r3), (Fl r5), (Fl r7), (Fl r9), (Fl r11)]), (Fl k), (Pt b14 0), Ud, (Bo false), (Pt b52 0), (Bo (growOk A_b (cf .f32 k))), (Pt b95 0), (Bo (growOk A_b (cf .f32 k))), (.tuple #[(.agg #[(Fl r39), (Fl r41), (Fl r43), (Fl r45), (Fl r47), (Fl r49)]), (Bo (growOk A_b (cf .f32 k)))]), (.agg #[(Fl r1), (Fl r3), (Fl r5), (Fl r7), (Fl r9), (Fl r11)]), (.agg #[(Fl r24), (Fl r26), (Fl r28), (Fl r30), (Fl r32), (Fl r34)]), (Fl k), (.tuple #[(.agg #[(Fl r39), (Fl r41), (Fl r43), (Fl r45), (Fl r47), (Fl r49)]), (Bo (growOk A_b (cf .f32 k)))]), (.agg #[(Fl r39), (Fl r41), (Fl r43), (Fl r45), (Fl r47), (Fl r49)]), (Bo (growOk A_b (cf .f32 k))), (.tuple #[(.agg #[(Fl r82), (Fl r84), (Fl r86), (Fl r88), (Fl r90), (Fl r92)]), (Bo (growOk A_b (cf .f32 k)))]), (.agg #[(Fl r1), (Fl r3), (Fl r5), (Fl r7), (Fl r9), (Fl r11)]), (.agg #[(Fl r67), (Fl r69), (Fl r71), (Fl r73), (Fl r75), (Fl r77)]), (Fl k), (.tuple #[(.agg #[(Fl r82), (Fl r84), (Fl r86), (Fl r88), (Fl r90), (Fl r92)]), (Bo (growOk A_b (cf .f32 k)))]), (.agg #[(Fl r82), (Fl r84), (Fl r86), (Fl r88), (Fl r90), (Fl r92)]), (Bo (growOk A_b (cf .f32 k))), v110, v111, v112, v113, Ud, Ud, Ud, Ud, Ud]) rfl (fun _ => rfl) (fun u hu hF => ?_) (fun v113 => ?_)
  · have h25_ : v112 = (Bo β1) := hF.1
    clear hF
    obtain rfl := h25_
    refine doesG_un rfl ?_
    refine (does_not (ev rfl)).mono ?_; rintro _ _ ⟨rfl, rfl⟩
    exact ⟨rfl, Ext.refl _⟩
  refine RW_d (fun v114 => [(.agg #[(Fl r1), (Fl r3), (Fl r5), (Fl r7), (Fl r9), (Fl r11)]), (Fl k), (Pt b14 0), Ud, (Bo false), (Pt b52 0), (Bo (growOk A_b (cf .f32 k))), (Pt b95 0), (Bo (growOk A_b (cf .f32 k))), (.tuple #[(.agg #[(Fl r39), (Fl r41), (Fl r43), (Fl r45), (Fl r47), (Fl r49)]), (Bo (growOk A_b (cf .f32 k)))]), (.agg #[(Fl r1), (Fl r3), (Fl r5), (Fl r7), (Fl r9), (Fl r11)]), (.agg #[(Fl r24), (Fl r26), (Fl r28), (Fl r30), (Fl r32), (Fl r34)]), (Fl k), (.tuple #[(.agg #[(Fl r39), (Fl r41), (Fl r43), (Fl r45), (Fl r47), (Fl r49)]), (Bo (growOk A_b (cf .f32 k)))]), (.agg #[(Fl r39), (Fl r41), (Fl r43), (Fl r45), (Fl r47), (Fl r49)]), (Bo (growOk A_b (cf .f32 k))), (.tuple #[(.agg #[(Fl r82), (Fl r84), (Fl r86), (Fl r88), (Fl r90), (Fl r92)]), (Bo (growOk A_b (cf .f32 k)))]), (.agg #[(Fl r1), (Fl r3), (Fl r5), (Fl r7), (Fl r9), (Fl r11)]), (.agg #[(Fl r67), (Fl r69), (Fl r71), (Fl r73), (Fl r75), (Fl r77)]), (Fl k), (.tuple #[(.agg #[(Fl r82), (Fl r84), (Fl r86), (Fl r88), (Fl r90), (Fl r92)]), (Bo (growOk A_b (cf .f32 k)))]), (.agg #[(Fl r82), (Fl r84), (Fl r86), (Fl r88), (Fl r90), (Fl r92)]), (Bo (growOk A_b (cf .f32 k))), v110, v111, v112, v113, v114, Ud, Ud, Ud, Ud]) rfl (fun _ => rfl) (fun u hu hF => ?_) (fun v114 => ?_)
  · have h26_ : v113 = (Bo (!β1)) := hF.1
    clear hF
    obtain rfl := h26_
    refine doesG_un rfl ?_
    refine (does_move (u := (Bo (!β1))) (ev rfl)).mono ?_; rintro _ _ ⟨rfl, rfl⟩
    exact ⟨rfl, Ext.refl _⟩
  refine RW_d (fun v115 => [(.agg #[(Fl r1), (Fl r3), (Fl r5), (Fl r7), (Fl r9), (Fl r11)]), (Fl k), (Pt b14 0), Ud, (Bo false), (Pt b52 0), (Bo (growOk A_b (cf .f32 k))), (Pt b95 0), (Bo (growOk A_b (cf .f32 k))), (.tuple #[(.agg #[(Fl r39), (Fl r41), (Fl r43), (Fl r45), (Fl r47), (Fl r49)]), (Bo (growOk A_b (cf .f32 k)))]), (.agg #[(Fl r1), (Fl r3), (Fl r5), (Fl r7), (Fl r9), (Fl r11)]), (.agg #[(Fl r24), (Fl r26), (Fl r28), (Fl r30), (Fl r32), (Fl r34)]), (Fl k), (.tuple #[(.agg #[(Fl r39), (Fl r41), (Fl r43), (Fl r45), (Fl r47), (Fl r49)]), (Bo (growOk A_b (cf .f32 k)))]), (.agg #[(Fl r39), (Fl r41), (Fl r43), (Fl r45), (Fl r47), (Fl r49)]), (Bo (growOk A_b (cf .f32 k))), (.tuple #[(.agg #[(Fl r82), (Fl r84), (Fl r86), (Fl r88), (Fl r90), (Fl r92)]), (Bo (growOk A_b (cf .f32 k)))]), (.agg #[(Fl r1), (Fl r3), (Fl r5), (Fl r7), (Fl r9), (Fl r11)]), (.agg #[(Fl r67), (Fl r69), (Fl r71), (Fl r73), (Fl r75), (Fl r77)]), (Fl k), (.tuple #[(.agg #[(Fl r82), (Fl r84), (Fl r86), (Fl r88), (Fl r90), (Fl r92)]), (Bo (growOk A_b (cf .f32 k)))]), (.agg #[(Fl r82), (Fl r84), (Fl r86), (Fl r88), (Fl r90), (Fl r92)]), (Bo (growOk A_b (cf .f32 k))), v110, v111, v112, v113, v114, v115, Ud, Ud, Ud]) rfl (fun _ => rfl) (fun u hu hF => ?_) (fun v115 => ?_)
  · have h27_ : v114 = (Bo (!β1)) := hF.1
    clear hF
    obtain rfl := h27_
    refine doesG_g (b := (!β1)) rfl (yld rfl rfl) (fun hg => ?_) (fun hg => ⟨fun h => absurd h hg, Ext.refl _⟩)
    refine (does_move (u := (Bo (growOk A_b (cf .f32 k)))) (ev rfl)).mono ?_; rintro _ _ ⟨rfl, rfl⟩
    exact ⟨fun _ => rfl, Ext.refl _⟩
  refine RW_d (fun v116 => [(.agg #[(Fl r1), (Fl r3), (Fl r5), (Fl r7), (Fl r9), (Fl r11)]), (Fl k), (Pt b14 0), Ud, (Bo false), (Pt b52 0), (Bo (growOk A_b (cf .f32 k))), (Pt b95 0), (Bo (growOk A_b (cf .f32 k))), (.tuple #[(.agg #[(Fl r39), (Fl r41), (Fl r43), (Fl r45), (Fl r47), (Fl r49)]), (Bo (growOk A_b (cf .f32 k)))]), (.agg #[(Fl r1), (Fl r3), (Fl r5), (Fl r7), (Fl r9), (Fl r11)]), (.agg #[(Fl r24), (Fl r26), (Fl r28), (Fl r30), (Fl r32), (Fl r34)]), (Fl k), (.tuple #[(.agg #[(Fl r39), (Fl r41), (Fl r43), (Fl r45), (Fl r47), (Fl r49)]), (Bo (growOk A_b (cf .f32 k)))]), (.agg #[(Fl r39), (Fl r41), (Fl r43), (Fl r45), (Fl r47), (Fl r49)]), (Bo (growOk A_b (cf .f32 k))), (.tuple #[(.agg #[(Fl r82), (Fl r84), (Fl r86), (Fl r88), (Fl r90), (Fl r92)]), (Bo (growOk A_b (cf .f32 k)))]), (.agg #[(Fl r1), (Fl r3), (Fl r5), (Fl r7), (Fl r9), (Fl r11)]), (.agg #[(Fl r67), (Fl r69), (Fl r71), (Fl r73), (Fl r75), (Fl r77)]), (Fl k), (.tuple #[(.agg #[(Fl r82), (Fl r84), (Fl r86), (Fl r88), (Fl r90), (Fl r92)]), (Bo (growOk A_b (cf .f32 k)))]), (.agg #[(Fl r82), (Fl r84), (Fl r86), (Fl r88), (Fl r90), (Fl r92)]), (Bo (growOk A_b (cf .f32 k))), v110, v111, v112, v113, v114, v115, v116, Ud, Ud]) rfl (fun _ => rfl) (fun u hu hF => ?_) (fun v116 => ?_)
  · have h27_ : v114 = (Bo (!β1)) := hF.1
    clear hF
    obtain rfl := h27_
    refine doesG_g (b := (!β1)) rfl (yld rfl rfl) (fun hg => ?_) (fun hg => ⟨fun h => absurd h hg, Ext.refl _⟩)
    refine (does_move (u := (Bo (growOk A_b (cf .f32 k)))) (ev rfl)).mono ?_; rintro _ _ ⟨rfl, rfl⟩
    exact ⟨fun _ => rfl, Ext.refl _⟩
  refine RW_d (fun v117 => [(.agg #[(Fl r1), (Fl r3), (Fl r5), (Fl r7), (Fl r9), (Fl r11)]), (Fl k), (Pt b14 0), Ud, (Bo false), (Pt b52 0), (Bo (growOk A_b (cf .f32 k))), (Pt b95 0), (Bo (growOk A_b (cf .f32 k))), (.tuple #[(.agg #[(Fl r39), (Fl r41), (Fl r43), (Fl r45), (Fl r47), (Fl r49)]), (Bo (growOk A_b (cf .f32 k)))]), (.agg #[(Fl r1), (Fl r3), (Fl r5), (Fl r7), (Fl r9), (Fl r11)]), (.agg #[(Fl r24), (Fl r26), (Fl r28), (Fl r30), (Fl r32), (Fl r34)]), (Fl k), (.tuple #[(.agg #[(Fl r39), (Fl r41), (Fl r43), (Fl r45), (Fl r47), (Fl r49)]), (Bo (growOk A_b (cf .f32 k)))]), (.agg #[(Fl r39), (Fl r41), (Fl r43), (Fl r45), (Fl r47), (Fl r49)]), (Bo (growOk A_b (cf .f32 k))), (.tuple #[(.agg #[(Fl r82), (Fl r84), (Fl r86), (Fl r88), (Fl r90), (Fl r92)]), (Bo (growOk A_b (cf .f32 k)))]), (.agg #[(Fl r1), (Fl r3), (Fl r5), (Fl r7), (Fl r9), (Fl r11)]), (.agg #[(Fl r67), (Fl r69), (Fl r71), (Fl r73), (Fl r75), (Fl r77)]), (Fl k), (.tuple #[(.agg #[(Fl r82), (Fl r84), (Fl r86), (Fl r88), (Fl r90), (Fl r92)]), (Bo (growOk A_b (cf .f32 k)))]), (.agg #[(Fl r82), (Fl r84), (Fl r86), (Fl r88), (Fl r90), (Fl r92)]), (Bo (growOk A_b (cf .f32 k))), v110, v111, v112, v113, v114, v115, v116, v117, Ud]) rfl (fun _ => rfl) (fun u hu hF => ?_) (fun v117 => ?_)
  · have h28_ : (!β1) = false → v115 = (Bo (growOk A_b (cf .f32 k))) := hF.1
    have h29_ : (!β1) = false → v116 = (Bo (growOk A_b (cf .f32 k))) := hF.2.1
    have h27_ : v114 = (Bo (!β1)) := hF.2.2.1
    clear hF
    obtain rfl := h27_
    refine doesG_g (b := (!β1)) rfl (yld rfl rfl) (fun hg => ?_) (fun hg => ⟨fun h => absurd h hg, Ext.refl _⟩)
    obtain rfl := h28_ hg
    obtain rfl := h29_ hg
    refine (does_bne (p := (growOk A_b (cf .f32 k))) (q := (growOk A_b (cf .f32 k))) Try.underlying4 (ev rfl) (ev rfl)).mono ?_; rintro _ _ ⟨rfl, rfl⟩
    exact ⟨fun _ => (by first | rfl | (show _ = _; simp only [hβ2])), Ext.refl _⟩
  refine RW_d (fun v118 => [(.agg #[(Fl r1), (Fl r3), (Fl r5), (Fl r7), (Fl r9), (Fl r11)]), (Fl k), (Pt b14 0), Ud, (Bo false), (Pt b52 0), (Bo (growOk A_b (cf .f32 k))), (Pt b95 0), (Bo (growOk A_b (cf .f32 k))), (.tuple #[(.agg #[(Fl r39), (Fl r41), (Fl r43), (Fl r45), (Fl r47), (Fl r49)]), (Bo (growOk A_b (cf .f32 k)))]), (.agg #[(Fl r1), (Fl r3), (Fl r5), (Fl r7), (Fl r9), (Fl r11)]), (.agg #[(Fl r24), (Fl r26), (Fl r28), (Fl r30), (Fl r32), (Fl r34)]), (Fl k), (.tuple #[(.agg #[(Fl r39), (Fl r41), (Fl r43), (Fl r45), (Fl r47), (Fl r49)]), (Bo (growOk A_b (cf .f32 k)))]), (.agg #[(Fl r39), (Fl r41), (Fl r43), (Fl r45), (Fl r47), (Fl r49)]), (Bo (growOk A_b (cf .f32 k))), (.tuple #[(.agg #[(Fl r82), (Fl r84), (Fl r86), (Fl r88), (Fl r90), (Fl r92)]), (Bo (growOk A_b (cf .f32 k)))]), (.agg #[(Fl r1), (Fl r3), (Fl r5), (Fl r7), (Fl r9), (Fl r11)]), (.agg #[(Fl r67), (Fl r69), (Fl r71), (Fl r73), (Fl r75), (Fl r77)]), (Fl k), (.tuple #[(.agg #[(Fl r82), (Fl r84), (Fl r86), (Fl r88), (Fl r90), (Fl r92)]), (Bo (growOk A_b (cf .f32 k)))]), (.agg #[(Fl r82), (Fl r84), (Fl r86), (Fl r88), (Fl r90), (Fl r92)]), (Bo (growOk A_b (cf .f32 k))), v110, v111, v112, v113, v114, v115, v116, v117, v118]) rfl (fun _ => rfl) (fun u hu hF => ?_) (fun v118 => ?_)
  · have h27_ : v114 = (Bo (!β1)) := hF.1
    have h30_ : (!β1) = false → v117 = (Bo β2) := hF.2.1
    clear hF
    obtain rfl := h27_
    refine doesG_un rfl ((does_pick (b := (!β1)) (ev rfl) (ev rfl) (ev rfl)).mono ?_); rintro _ _ ⟨rfl, rfl⟩; refine ⟨?_, Ext.refl _⟩; skip
    cases hbb : (!β1) <;> simp [hbb] at h30_ ⊢
    all_goals (first | rfl | (subst h30_; rfl) | simp_all)
  refine RW_fin ?_; intro w119 E120 hP121
  obtain ⟨⟨⟨⟨⟨⟨⟨⟨⟨-, -⟩, -⟩, -⟩, -⟩, -⟩, -⟩, -⟩, -⟩, q122⟩ := hP121
  have X123 := Ext.gr X107 E120
  have q122 : v118 = (Bo ((!β1) || β2)) := q122
  obtain rfl := q122
  show wpList _ _ _ _ (fr [(.agg #[(Fl r1), (Fl r3), (Fl r5), (Fl r7), (Fl r9), (Fl r11)]), (Fl k), (Pt b14 0), Ud, (Bo false), (Pt b52 0), (Bo (growOk A_b (cf .f32 k))), (Pt b95 0), (Bo (growOk A_b (cf .f32 k))), (.tuple #[(.agg #[(Fl r39), (Fl r41), (Fl r43), (Fl r45), (Fl r47), (Fl r49)]), (Bo (growOk A_b (cf .f32 k)))]), (.agg #[(Fl r1), (Fl r3), (Fl r5), (Fl r7), (Fl r9), (Fl r11)]), (.agg #[(Fl r24), (Fl r26), (Fl r28), (Fl r30), (Fl r32), (Fl r34)]), (Fl k), (.tuple #[(.agg #[(Fl r39), (Fl r41), (Fl r43), (Fl r45), (Fl r47), (Fl r49)]), (Bo (growOk A_b (cf .f32 k)))]), (.agg #[(Fl r39), (Fl r41), (Fl r43), (Fl r45), (Fl r47), (Fl r49)]), (Bo (growOk A_b (cf .f32 k))), (.tuple #[(.agg #[(Fl r82), (Fl r84), (Fl r86), (Fl r88), (Fl r90), (Fl r92)]), (Bo (growOk A_b (cf .f32 k)))]), (.agg #[(Fl r1), (Fl r3), (Fl r5), (Fl r7), (Fl r9), (Fl r11)]), (.agg #[(Fl r67), (Fl r69), (Fl r71), (Fl r73), (Fl r75), (Fl r77)]), (Fl k), (.tuple #[(.agg #[(Fl r82), (Fl r84), (Fl r86), (Fl r88), (Fl r90), (Fl r92)]), (Bo (growOk A_b (cf .f32 k)))]), (.agg #[(Fl r82), (Fl r84), (Fl r86), (Fl r88), (Fl r90), (Fl r92)]), (Bo (growOk A_b (cf .f32 k))), v110, v111, v112, v113, v114, v115, v116, v117, (Bo ((!β1) || β2))]) _
  refine wpList_nil (hK109 _ _ ?_)
  refine wp_cond_split (t := (!β1) || β2) (ev rfl) (fun c124 => ?_) (fun c124 => ?_)
  · have c124' := c124
    (try simp only [hβ1, hβ2] at c124')
    (try simp only [icmp, Bool.and_eq_true, Bool.or_eq_true, Bool.and_eq_false_iff, Bool.or_eq_false_iff, Bool.not_eq_true', Bool.not_eq_false', decide_eq_true_eq, decide_eq_false_iff_not, beq_iff_eq, bne_iff_ne, beq_eq_false_iff_ne, bne_eq_false_iff_eq] at c124')
    refine wp_seq_k fun K125 hK125 => ?_
    refine wp_region_lit ?_
    refine q_is (l' := [(.agg #[(Fl r1), (Fl r3), (Fl r5), (Fl r7), (Fl r9), (Fl r11)]), (Fl k), (Pt b14 0), Ud, (Bo false), (Pt b52 0), (Bo (growOk A_b (cf .f32 k))), (Pt b95 0), (Bo (growOk A_b (cf .f32 k))), (.tuple #[(.agg #[(Fl r39), (Fl r41), (Fl r43), (Fl r45), (Fl r47), (Fl r49)]), (Bo (growOk A_b (cf .f32 k)))]), (.agg #[(Fl r1), (Fl r3), (Fl r5), (Fl r7), (Fl r9), (Fl r11)]), (.agg #[(Fl r24), (Fl r26), (Fl r28), (Fl r30), (Fl r32), (Fl r34)]), (Fl k), (.tuple #[(.agg #[(Fl r39), (Fl r41), (Fl r43), (Fl r45), (Fl r47), (Fl r49)]), (Bo (growOk A_b (cf .f32 k)))]), (.agg #[(Fl r39), (Fl r41), (Fl r43), (Fl r45), (Fl r47), (Fl r49)]), (Bo (growOk A_b (cf .f32 k))), (.tuple #[(.agg #[(Fl r82), (Fl r84), (Fl r86), (Fl r88), (Fl r90), (Fl r92)]), (Bo (growOk A_b (cf .f32 k)))]), (.agg #[(Fl r1), (Fl r3), (Fl r5), (Fl r7), (Fl r9), (Fl r11)]), (.agg #[(Fl r67), (Fl r69), (Fl r71), (Fl r73), (Fl r75), (Fl r77)]), (Fl k), (.tuple #[(.agg #[(Fl r82), (Fl r84), (Fl r86), (Fl r88), (Fl r90), (Fl r92)]), (Bo (growOk A_b (cf .f32 k)))]), (.agg #[(Fl r82), (Fl r84), (Fl r86), (Fl r88), (Fl r90), (Fl r92)]), (Bo (growOk A_b (cf .f32 k))), v110, v111, v112, v113, v114, v115, v116, v117, (Bo ((!β1) || β2))]) rfl rfl (does_assign (u := (Bo false)) (ev rfl)) rfl ?_
    refine wpList_nil (hK125 _ _ ?_)
    refine wp_ret ?_
    dsimp only [Exit.then, Exit.inBlock]
    refine ret_val (v := (Bo false)) (res_T rfl (slot rfl)) X123 ?_
    try simp only [h2, h4, h6, h8, h10, h12, h25, h27, h29, h31, h33, h35, h40, h42, h44, h46, h48, h50, h68, h70, h72, h74, h76, h78, h83, h85, h87, h89, h91, h93, hβ1, hβ2] at c124
    have x126 : true = false := by first | rfl | (simp only [sameF_self, sameV_self, sameB_self, sameR_self, bne_self_eq_false, h2, h4, h6, h8, h10, h12, h25, h27, h29, h31, h33, h35, h40, h42, h44, h46, h48, h50, h68, h70, h72, h74, h76, h78, h83, h85, h87, h89, h91, h93, hβ1, hβ2, c124]; done) | (simp [sameF_self, sameV_self, sameB_self, sameR_self, bne_self_eq_false, h2, h4, h6, h8, h10, h12, h25, h27, h29, h31, h33, h35, h40, h42, h44, h46, h48, h50, h68, h70, h72, h74, h76, h78, h83, h85, h87, h89, h91, h93, hβ1, hβ2, c124]; done) | (revert c124; simp +contextual [sameF_self, sameV_self, sameB_self, sameR_self, bne_self_eq_false, h2, h4, h6, h8, h10, h12, h25, h27, h29, h31, h33, h35, h40, h42, h44, h46, h48, h50, h68, h70, h72, h74, h76, h78, h83, h85, h87, h89, h91, h93, hβ1, hβ2]; done) | (rcases c124' with hh | hh <;> simp only [hh, sameF_self, sameV_self, sameB_self, sameR_self, bne_self_eq_false, h2, h4, h6, h8, h10, h12, h25, h27, h29, h31, h33, h35, h40, h42, h44, h46, h48, h50, h68, h70, h72, h74, h76, h78, h83, h85, h87, h89, h91, h93, hβ1, hβ2, c124]; done)
    exact (by first | rfl | rw [x126])
  have c124' := c124
  (try simp only [hβ1, hβ2] at c124')
  (try simp only [icmp, Bool.and_eq_true, Bool.or_eq_true, Bool.and_eq_false_iff, Bool.or_eq_false_iff, Bool.not_eq_true', Bool.not_eq_false', decide_eq_true_eq, decide_eq_false_iff_not, beq_iff_eq, bne_iff_ne, beq_eq_false_iff_ne, bne_eq_false_iff_eq] at c124')
  refine wp_skip (hK108 _ _ ?_)
  refine wp_seq_k fun K127 hK127 => ?_
  refine wp_region_lit ?_
  refine q_is (l' := [(.agg #[(Fl r1), (Fl r3), (Fl r5), (Fl r7), (Fl r9), (Fl r11)]), (Fl k), (Pt b14 0), Ud, (Bo true), (Pt b52 0), (Bo (growOk A_b (cf .f32 k))), (Pt b95 0), (Bo (growOk A_b (cf .f32 k))), (.tuple #[(.agg #[(Fl r39), (Fl r41), (Fl r43), (Fl r45), (Fl r47), (Fl r49)]), (Bo (growOk A_b (cf .f32 k)))]), (.agg #[(Fl r1), (Fl r3), (Fl r5), (Fl r7), (Fl r9), (Fl r11)]), (.agg #[(Fl r24), (Fl r26), (Fl r28), (Fl r30), (Fl r32), (Fl r34)]), (Fl k), (.tuple #[(.agg #[(Fl r39), (Fl r41), (Fl r43), (Fl r45), (Fl r47), (Fl r49)]), (Bo (growOk A_b (cf .f32 k)))]), (.agg #[(Fl r39), (Fl r41), (Fl r43), (Fl r45), (Fl r47), (Fl r49)]), (Bo (growOk A_b (cf .f32 k))), (.tuple #[(.agg #[(Fl r82), (Fl r84), (Fl r86), (Fl r88), (Fl r90), (Fl r92)]), (Bo (growOk A_b (cf .f32 k)))]), (.agg #[(Fl r1), (Fl r3), (Fl r5), (Fl r7), (Fl r9), (Fl r11)]), (.agg #[(Fl r67), (Fl r69), (Fl r71), (Fl r73), (Fl r75), (Fl r77)]), (Fl k), (.tuple #[(.agg #[(Fl r82), (Fl r84), (Fl r86), (Fl r88), (Fl r90), (Fl r92)]), (Bo (growOk A_b (cf .f32 k)))]), (.agg #[(Fl r82), (Fl r84), (Fl r86), (Fl r88), (Fl r90), (Fl r92)]), (Bo (growOk A_b (cf .f32 k))), v110, v111, v112, v113, v114, v115, v116, v117, (Bo ((!β1) || β2))]) rfl rfl (does_assign (u := (Bo true)) (ev rfl)) rfl ?_
  refine wpList_nil (hK127 _ _ ?_)
  refine wp_ret ?_
  refine ret_val (v := (Bo true)) (res_T rfl (slot rfl)) X123 ?_
  try simp only [h2, h4, h6, h8, h10, h12, h25, h27, h29, h31, h33, h35, h40, h42, h44, h46, h48, h50, h68, h70, h72, h74, h76, h78, h83, h85, h87, h89, h91, h93, hβ1, hβ2] at c124
  exact rfl

/- spec.l02Greater -/
theorem c_spec_l02Greater (x : Nat) (y : Nat) (w : World) : Gives Try.prog 98 #[(Fl x), (Fl y)] w (fun v w' => ∃ r_1 : Nat, v = (Fl r_1) ∧ cf .f32 r_1 = fmaxG (cf .f32 x) (cf .f32 y)) := by
  refine enter [(Fl x), (Fl y), Ud, Ud, Ud, Ud, Ud, Ud, Ud, Ud] Try.func98 rfl Try.ntmps98 rfl ?_
  refine wp_seq_k fun K1 hK1 => ?_
  refine wp_region_lit ?_
  refine q_is (l' := [(Fl x), (Fl y), Ud, Ud, (Fl 0), Ud, Ud, Ud, Ud, Ud]) rfl rfl (does_assign (u := (Fl 0)) (ev rfl)) rfl ?_
  refine wpList_nil (hK1 _ _ ?_)
  refine wp_seq_k fun K2 hK2 => ?_
  refine wp_seq_k fun K3 hK3 => ?_
  refine wp_region_lit ?_
  refine q_is (l' := [(Fl x), (Fl y), Ud, Ud, (Fl 0), (Fl y), Ud, Ud, Ud, Ud]) rfl rfl (does_move (u := (Fl y)) (ev rfl)) rfl ?_
  refine q_is (l' := [(Fl x), (Fl y), Ud, Ud, (Fl 0), (Fl y), (Fl x), Ud, Ud, Ud]) rfl rfl (does_move (u := (Fl x)) (ev rfl)) rfl ?_
  refine q_is (l' := [(Fl x), (Fl y), Ud, Ud, (Fl 0), (Fl y), (Fl x), (Bo (fcmp .gtr (ford .f32 (cf .f32 y) (cf .f32 x)))), Ud, Ud]) rfl rfl (does_fcmp (.inr (.inr (.inr (.inr (.inl rfl))))) (ev rfl) (ev rfl)) rfl ?_
  refine wpList_nil (hK3 _ _ ?_)
  refine wp_cond_split (t := fcmp .gtr (ford .f32 (cf .f32 y) (cf .f32 x))) (ev rfl) (fun c4 => ?_) (fun c4 => ?_)
  · have c4' := c4
    refine wp_seq_k fun K5 hK5 => ?_
    refine wp_region_lit ?_
    refine q_is (l' := [(Fl x), (Fl y), Ud, Ud, (Fl 0), (Fl y), (Fl x), (Bo (fcmp .gtr (ford .f32 (cf .f32 y) (cf .f32 x)))), (Fl y), Ud]) rfl rfl (does_move (u := (Fl y)) (ev rfl)) rfl ?_
    refine q_is (l' := [(Fl x), (Fl y), Ud, Ud, (Fl y), (Fl y), (Fl x), (Bo (fcmp .gtr (ford .f32 (cf .f32 y) (cf .f32 x)))), (Fl y), Ud]) rfl rfl (does_assign (u := (Fl y)) (ev rfl)) rfl ?_
    refine wpList_nil (hK5 _ _ ?_)
    refine wp_ret ?_
    dsimp only [Exit.then, Exit.inBlock]
    refine ret_val (v := (Fl y)) (res_T rfl (slot rfl)) (Ext.refl w) ?_
    have x6 : cf .f32 y = fmaxG (cf .f32 x) (cf .f32 y) := by first | rfl | (simp only [fmaxG, c4]; done) | (simp [fmaxG, c4]; done) | (revert c4; simp +contextual [fmaxG]; done) | (rcases c4' with hh | hh <;> simp only [hh, fmaxG, c4]; done)
    exact ⟨y, rfl, x6⟩
  have c4' := c4
  refine wp_skip (hK2 _ _ ?_)
  refine wp_seq_k fun K7 hK7 => ?_
  refine wp_region_lit ?_
  refine q_is (l' := [(Fl x), (Fl y), Ud, Ud, (Fl 0), (Fl y), (Fl x), (Bo (fcmp .gtr (ford .f32 (cf .f32 y) (cf .f32 x)))), Ud, (Fl x)]) rfl rfl (does_move (u := (Fl x)) (ev rfl)) rfl ?_
  refine q_is (l' := [(Fl x), (Fl y), Ud, Ud, (Fl x), (Fl y), (Fl x), (Bo (fcmp .gtr (ford .f32 (cf .f32 y) (cf .f32 x)))), Ud, (Fl x)]) rfl rfl (does_assign (u := (Fl x)) (ev rfl)) rfl ?_
  refine wpList_nil (hK7 _ _ ?_)
  refine wp_ret ?_
  refine ret_val (v := (Fl x)) (res_T rfl (slot rfl)) (Ext.refl w) ?_
  have x8 : cf .f32 x = fmaxG (cf .f32 x) (cf .f32 y) := by first | rfl | (simp only [fmaxG, c4]; done) | (simp [fmaxG, c4]; done) | (revert c4; simp +contextual [fmaxG]; done) | (rcases c4' with hh | hh <;> simp only [hh, fmaxG, c4]; done)
  exact ⟨x, rfl, x8⟩

end Go.Proofs.Ythmejogjmjjmgaa
