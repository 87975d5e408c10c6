/- contracts of functions, each walked once -/
import Derived.Test.YthmejogjmjjmgaaTy
import Derived.Test.YthmejogjmjjmgaaMath
namespace Go.Proofs.Ythmejogjmjjmgaa
open Go Go.RowKit
set_option maxRecDepth 100000
set_option linter.unusedVariables false
set_option linter.unusedSimpArgs false

/- spec.l02Greater -/
theorem c_spec_l02Greater (x : Nat) (y : Nat) (w : World) : Gives Try.prog 98 #[(.float .f32 x), (.float .f32 y)] w (fun v w' => ∃ r_1 : Nat, v = (.float .f32 r_1) ∧ cf .f32 r_1 = fmaxG (cf .f32 x) (cf .f32 y)) := by
  refine enter [(.float .f32 x), (.float .f32 y), undef, undef, undef, undef, undef, undef, undef, undef] Try.func98 rfl Try.ntmps98 rfl ?_
  refine wp_seq_k fun K1 hK1 => ?_
  refine wp_region_lit ?_
  refine q_is (l' := [(.float .f32 x), (.float .f32 y), undef, undef, (.float .f32 0), undef, undef, undef, undef, undef]) rfl rfl (does_assign (u := (.float .f32 0)) (ev rfl)) rfl ?_
  refine wpList_nil (hK1 _ _ ?_)
  refine wp_seq_k fun K2 hK2 => ?_
  refine wp_seq_k fun K3 hK3 => ?_
  refine wp_region_lit ?_
  refine q_is (l' := [(.float .f32 x), (.float .f32 y), undef, undef, (.float .f32 0), (.float .f32 y), undef, undef, undef, undef]) rfl rfl (does_move (u := (.float .f32 y)) (ev rfl)) rfl ?_
  refine q_is (l' := [(.float .f32 x), (.float .f32 y), undef, undef, (.float .f32 0), (.float .f32 y), (.float .f32 x), undef, undef, undef]) rfl rfl (does_move (u := (.float .f32 x)) (ev rfl)) rfl ?_
  refine q_is (l' := [(.float .f32 x), (.float .f32 y), undef, undef, (.float .f32 0), (.float .f32 y), (.float .f32 x), (.bool (fcmp .gtr (ford .f32 (cf .f32 y) (cf .f32 x)))), undef, undef]) rfl rfl (does_fcmp (.inr (.inr (.inr (.inr (.inl rfl))))) (ev rfl) (ev rfl)) rfl ?_
  refine wpList_nil (hK3 _ _ ?_)
  refine wp_cond_split (t := fcmp .gtr (ford .f32 (cf .f32 y) (cf .f32 x))) (ev rfl) (fun c4 => ?_) (fun c4 => ?_)
  · have c4' := c4
    refine wp_seq_k fun K5 hK5 => ?_
    refine wp_region_lit ?_
    refine q_is (l' := [(.float .f32 x), (.float .f32 y), undef, undef, (.float .f32 0), (.float .f32 y), (.float .f32 x), (.bool (fcmp .gtr (ford .f32 (cf .f32 y) (cf .f32 x)))), (.float .f32 y), undef]) rfl rfl (does_move (u := (.float .f32 y)) (ev rfl)) rfl ?_
    refine q_is (l' := [(.float .f32 x), (.float .f32 y), undef, undef, (.float .f32 y), (.float .f32 y), (.float .f32 x), (.bool (fcmp .gtr (ford .f32 (cf .f32 y) (cf .f32 x)))), (.float .f32 y), undef]) rfl rfl (does_assign (u := (.float .f32 y)) (ev rfl)) rfl ?_
    refine wpList_nil (hK5 _ _ ?_)
    refine wp_ret ?_
    dsimp only [Exit.then, Exit.inBlock]
    refine ret_val (v := (.float .f32 y)) (res_T rfl (slot rfl)) (Ext.refl w) ?_
    have x6 : cf .f32 y = fmaxG (cf .f32 x) (cf .f32 y) := by first | rfl | (simp only [fmaxG, c4]; done) | (simp [fmaxG, c4]; done) | (revert c4; simp +contextual [fmaxG]; done)
    exact ⟨y, rfl, x6⟩
  have c4' := c4
  refine wp_skip (hK2 _ _ ?_)
  refine wp_seq_k fun K7 hK7 => ?_
  refine wp_region_lit ?_
  refine q_is (l' := [(.float .f32 x), (.float .f32 y), undef, undef, (.float .f32 0), (.float .f32 y), (.float .f32 x), (.bool (fcmp .gtr (ford .f32 (cf .f32 y) (cf .f32 x)))), undef, (.float .f32 x)]) rfl rfl (does_move (u := (.float .f32 x)) (ev rfl)) rfl ?_
  refine q_is (l' := [(.float .f32 x), (.float .f32 y), undef, undef, (.float .f32 x), (.float .f32 y), (.float .f32 x), (.bool (fcmp .gtr (ford .f32 (cf .f32 y) (cf .f32 x)))), undef, (.float .f32 x)]) rfl rfl (does_assign (u := (.float .f32 x)) (ev rfl)) rfl ?_
  refine wpList_nil (hK7 _ _ ?_)
  refine wp_ret ?_
  refine ret_val (v := (.float .f32 x)) (res_T rfl (slot rfl)) (Ext.refl w) ?_
  have x8 : cf .f32 x = fmaxG (cf .f32 x) (cf .f32 y) := by first | rfl | (simp only [fmaxG, c4]; done) | (simp [fmaxG, c4]; done) | (revert c4; simp +contextual [fmaxG]; done)
  exact ⟨x, rfl, x8⟩

/- spec.l04Size -/
theorem c_spec_l04Size (rl : Nat) (rh : Nat) (w : World) : Gives Try.prog 54 #[(.agg #[(.float .f32 rl), (.float .f32 rh)])] w (fun v w' => ∃ r_1 : Nat, ∃ r_2 : Nat, v = (.agg #[(.float .f32 r_1), (.float .f32 r_2)]) ∧ cf .f32 r_1 = (szRange (cf .f32 rl) (cf .f32 rh)).1 ∧ cf .f32 r_2 = (szRange (cf .f32 rl) (cf .f32 rh)).2) := by
  refine enter [(.agg #[(.float .f32 rl), (.float .f32 rh)]), undef, undef, undef, undef, undef, undef, undef, undef, undef, undef, undef, undef, undef, undef, undef, undef, undef, undef, undef, undef, undef, undef, undef] Try.func54 rfl Try.ntmps54 rfl ?_
  refine wp_seq_k fun K1 hK1 => ?_
  refine wp_region_lit ?_
  refine seqd rfl rfl (does_box (u := (.agg #[(.float .f32 rl), (.float .f32 rh)])) (ev rfl)) ?_; rintro _ w6 ⟨b2, rfl, hb3, hB4, E5⟩
  have g7 : w.heap.size ≤ b2 := Nat.le_trans (Below.size (Ext.refl w)) hb3
  change Blk _ _ [(.float .f32 rl), (.float .f32 rh)] at hB4
  have X8 := Ext.gr (Ext.refl w) E5
  show wpList _ _ _ _ (fr [(.agg #[(.float .f32 rl), (.float .f32 rh)]), (.pointer (some ⟨b2, 0, none⟩)), undef, undef, undef, undef, undef, undef, undef, undef, undef, undef, undef, undef, undef, undef, undef, undef, undef, undef, undef, undef, undef, undef]) _
  refine seqd rfl rfl (does_alloc z41) ?_; rintro _ w13 ⟨b9, rfl, hb10, hB11, E12⟩
  have n14 : b2 < b9 := Nat.lt_of_lt_of_le (Blk.lt hB4) hb10
  have g15 : w.heap.size ≤ b9 := Nat.le_trans (Below.size X8) hb10
  change Blk _ _ [(.float .f32 0), (.float .f32 0)] at hB11
  have X16 := Ext.gr X8 E12
  show wpList _ _ _ _ (fr [(.agg #[(.float .f32 rl), (.float .f32 rh)]), (.pointer (some ⟨b2, 0, none⟩)), (.pointer (some ⟨b9, 0, none⟩)), undef, undef, undef, undef, undef, undef, undef, undef, undef, undef, undef, undef, undef, undef, undef, undef, undef, undef, undef, undef, undef]) _
  refine wpList_nil (hK1 _ _ ?_)
  refine wp_seq_k fun K17 hK17 => ?_
  refine wp_seq_k fun K18 hK18 => ?_
  refine wp_region_lit ?_
  refine q_is (l' := [(.agg #[(.float .f32 rl), (.float .f32 rh)]), (.pointer (some ⟨b2, 0, none⟩)), (.pointer (some ⟨b9, 0, none⟩)), (.pointer (some ⟨b2, 0, none⟩)), undef, undef, undef, undef, undef, undef, undef, undef, undef, undef, undef, undef, undef, undef, undef, undef, undef, undef, undef, undef]) rfl rfl (does_fieldAddr (ev rfl) fa41_0) rfl ?_
  refine q_is (l' := [(.agg #[(.float .f32 rl), (.float .f32 rh)]), (.pointer (some ⟨b2, 0, none⟩)), (.pointer (some ⟨b9, 0, none⟩)), (.pointer (some ⟨b2, 0, none⟩)), (.float .f32 rl), undef, undef, undef, undef, undef, undef, undef, undef, undef, undef, undef, undef, undef, undef, undef, undef, undef, undef, undef]) rfl rfl (does_load (u := (.float .f32 rl)) (ev rfl) Try.isAgg25 (Cells.at (Blk.cells (hB4.ext E12)) 0 rfl)) rfl ?_
  refine q_is (l' := [(.agg #[(.float .f32 rl), (.float .f32 rh)]), (.pointer (some ⟨b2, 0, none⟩)), (.pointer (some ⟨b9, 0, none⟩)), (.pointer (some ⟨b2, 0, none⟩)), (.float .f32 rl), (.bool (fcmp .gtr (ford .f32 (cf .f32 rl) (cf .f32 0)))), undef, undef, undef, undef, undef, undef, undef, undef, undef, undef, undef, undef, undef, undef, undef, undef, undef, undef]) rfl rfl (does_fcmp (.inr (.inr (.inr (.inr (.inl rfl))))) (ev rfl) (ev rfl)) rfl ?_
  refine wpList_nil (hK18 _ _ ?_)
  refine wp_cond_split (t := fcmp .gtr (ford .f32 (cf .f32 rl) (cf .f32 0))) (ev rfl) (fun c19 => ?_) (fun c19 => ?_)
  · have c19' := c19
    refine wp_seq_k fun K20 hK20 => ?_
    refine wp_region_lit ?_
    refine q_is (l' := [(.agg #[(.float .f32 rl), (.float .f32 rh)]), (.pointer (some ⟨b2, 0, none⟩)), (.pointer (some ⟨b9, 0, none⟩)), (.pointer (some ⟨b2, 0, none⟩)), (.float .f32 rl), (.bool (fcmp .gtr (ford .f32 (cf .f32 rl) (cf .f32 0)))), (.agg #[(.float .f32 rl), (.float .f32 rh)]), undef, undef, undef, undef, undef, undef, undef, undef, undef, undef, undef, undef, undef, undef, undef, undef, undef]) rfl rfl (does_loadAgg (cs := [(.float .f32 rl), (.float .f32 rh)]) (ev rfl) Try.isAgg41 Try.sizeOf41 (Blk.cells (hB4.ext E12)) rfl) rfl ?_
    refine seqn rfl rfl (does_store (n := 2) (cs := [(.float .f32 0), (.float .f32 0)]) (u := (.agg #[(.float .f32 rl), (.float .f32 rh)])) (ev rfl) (ev rfl) Try.sizeOf41 rfl hB11 (Nat.le_of_ble_eq_true rfl) rfl) ?_; rintro _ w23 ⟨rfl, W21, hB22⟩
    change Blk _ _ [(.float .f32 rl), (.float .f32 rh)] at hB22
    have X24 := Below.wr X16 W21 g15
    refine wpList_nil (hK20 _ _ ?_)
    refine wp_ret ?_
    dsimp only [Exit.then, Exit.inBlock]
    refine ret_val (v := (.agg #[(.float .f32 rl), (.float .f32 rh)])) (res_C rfl (slot rfl) (run_loadAgg (cs := [(.float .f32 rl), (.float .f32 rh)]) Try.isAgg41 Try.sizeOf41 (Blk.cells hB22) rfl)) X24 ?_
    have x25 : cf .f32 rl = (szRange (cf .f32 rl) (cf .f32 rh)).1 := by first | rfl | (simp only [szRange, c19]; done) | (simp [szRange, c19]; done) | (revert c19; simp +contextual [szRange]; done)
    have x26 : cf .f32 rh = (szRange (cf .f32 rl) (cf .f32 rh)).2 := by first | rfl | (simp only [szRange, c19]; done) | (simp [szRange, c19]; done) | (revert c19; simp +contextual [szRange]; done)
    exact ⟨rl, rh, rfl, x25, x26⟩
  have c19' := c19
  refine wp_skip (hK17 _ _ ?_)
  refine wp_seq_k fun K27 hK27 => ?_
  refine wp_seq_k fun K28 hK28 => ?_
  refine wp_region_lit ?_
  refine q_is (l' := [(.agg #[(.float .f32 rl), (.float .f32 rh)]), (.pointer (some ⟨b2, 0, none⟩)), (.pointer (some ⟨b9, 0, none⟩)), (.pointer (some ⟨b2, 0, none⟩)), (.float .f32 rl), (.bool (fcmp .gtr (ford .f32 (cf .f32 rl) (cf .f32 0)))), undef, (.pointer (some ⟨b2, 1, none⟩)), undef, undef, undef, undef, undef, undef, undef, undef, undef, undef, undef, undef, undef, undef, undef, undef]) rfl rfl (does_fieldAddr (ev rfl) fa41_1) rfl ?_
  refine q_is (l' := [(.agg #[(.float .f32 rl), (.float .f32 rh)]), (.pointer (some ⟨b2, 0, none⟩)), (.pointer (some ⟨b9, 0, none⟩)), (.pointer (some ⟨b2, 0, none⟩)), (.float .f32 rl), (.bool (fcmp .gtr (ford .f32 (cf .f32 rl) (cf .f32 0)))), undef, (.pointer (some ⟨b2, 1, none⟩)), (.float .f32 rh), undef, undef, undef, undef, undef, undef, undef, undef, undef, undef, undef, undef, undef, undef, undef]) rfl rfl (does_load (u := (.float .f32 rh)) (ev rfl) Try.isAgg25 (Cells.at (Blk.cells (hB4.ext E12)) 1 rfl)) rfl ?_
  refine q_is (l' := [(.agg #[(.float .f32 rl), (.float .f32 rh)]), (.pointer (some ⟨b2, 0, none⟩)), (.pointer (some ⟨b9, 0, none⟩)), (.pointer (some ⟨b2, 0, none⟩)), (.float .f32 rl), (.bool (fcmp .gtr (ford .f32 (cf .f32 rl) (cf .f32 0)))), undef, (.pointer (some ⟨b2, 1, none⟩)), (.float .f32 rh), (.bool (fcmp .lss (ford .f32 (cf .f32 rh) (cf .f32 0)))), undef, undef, undef, undef, undef, undef, undef, undef, undef, undef, undef, undef, undef, undef]) rfl rfl (does_fcmp (.inr (.inr (.inl rfl))) (ev rfl) (ev rfl)) rfl ?_
  refine wpList_nil (hK28 _ _ ?_)
  refine wp_cond_split (t := fcmp .lss (ford .f32 (cf .f32 rh) (cf .f32 0))) (ev rfl) (fun c29 => ?_) (fun c29 => ?_)
  · have c29' := c29
    refine wp_seq_k fun K30 hK30 => ?_
    refine wp_region_lit ?_
    refine q_is (l' := [(.agg #[(.float .f32 rl), (.float .f32 rh)]), (.pointer (some ⟨b2, 0, none⟩)), (.pointer (some ⟨b9, 0, none⟩)), (.pointer (some ⟨b2, 0, none⟩)), (.float .f32 rl), (.bool (fcmp .gtr (ford .f32 (cf .f32 rl) (cf .f32 0)))), undef, (.pointer (some ⟨b2, 1, none⟩)), (.float .f32 rh), (.bool (fcmp .lss (ford .f32 (cf .f32 rh) (cf .f32 0)))), (.pointer (some ⟨b2, 1, none⟩)), undef, undef, undef, undef, undef, undef, undef, undef, undef, undef, undef, undef, undef]) rfl rfl (does_fieldAddr (ev rfl) fa41_1) rfl ?_
    refine q_is (l' := [(.agg #[(.float .f32 rl), (.float .f32 rh)]), (.pointer (some ⟨b2, 0, none⟩)), (.pointer (some ⟨b9, 0, none⟩)), (.pointer (some ⟨b2, 0, none⟩)), (.float .f32 rl), (.bool (fcmp .gtr (ford .f32 (cf .f32 rl) (cf .f32 0)))), undef, (.pointer (some ⟨b2, 1, none⟩)), (.float .f32 rh), (.bool (fcmp .lss (ford .f32 (cf .f32 rh) (cf .f32 0)))), (.pointer (some ⟨b2, 1, none⟩)), (.float .f32 rh), undef, undef, undef, undef, undef, undef, undef, undef, undef, undef, undef, undef]) rfl rfl (does_load (u := (.float .f32 rh)) (ev rfl) Try.isAgg25 (Cells.at (Blk.cells (hB4.ext E12)) 1 rfl)) rfl ?_
    refine seqd rfl rfl (does_fneg' (ev rfl)) ?_; rintro _ _ ⟨r31, rfl, h32, rfl⟩
    show wpList _ _ _ _ (fr [(.agg #[(.float .f32 rl), (.float .f32 rh)]), (.pointer (some ⟨b2, 0, none⟩)), (.pointer (some ⟨b9, 0, none⟩)), (.pointer (some ⟨b2, 0, none⟩)), (.float .f32 rl), (.bool (fcmp .gtr (ford .f32 (cf .f32 rl) (cf .f32 0)))), undef, (.pointer (some ⟨b2, 1, none⟩)), (.float .f32 rh), (.bool (fcmp .lss (ford .f32 (cf .f32 rh) (cf .f32 0)))), (.pointer (some ⟨b2, 1, none⟩)), (.float .f32 rh), (.float .f32 r31), undef, undef, undef, undef, undef, undef, undef, undef, undef, undef, undef]) _
    refine q_is (l' := [(.agg #[(.float .f32 rl), (.float .f32 rh)]), (.pointer (some ⟨b2, 0, none⟩)), (.pointer (some ⟨b9, 0, none⟩)), (.pointer (some ⟨b2, 0, none⟩)), (.float .f32 rl), (.bool (fcmp .gtr (ford .f32 (cf .f32 rl) (cf .f32 0)))), undef, (.pointer (some ⟨b2, 1, none⟩)), (.float .f32 rh), (.bool (fcmp .lss (ford .f32 (cf .f32 rh) (cf .f32 0)))), (.pointer (some ⟨b2, 1, none⟩)), (.float .f32 rh), (.float .f32 r31), (.pointer (some ⟨b2, 0, none⟩)), undef, undef, undef, undef, undef, undef, undef, undef, undef, undef]) rfl rfl (does_fieldAddr (ev rfl) fa41_0) rfl ?_
    refine q_is (l' := [(.agg #[(.float .f32 rl), (.float .f32 rh)]), (.pointer (some ⟨b2, 0, none⟩)), (.pointer (some ⟨b9, 0, none⟩)), (.pointer (some ⟨b2, 0, none⟩)), (.float .f32 rl), (.bool (fcmp .gtr (ford .f32 (cf .f32 rl) (cf .f32 0)))), undef, (.pointer (some ⟨b2, 1, none⟩)), (.float .f32 rh), (.bool (fcmp .lss (ford .f32 (cf .f32 rh) (cf .f32 0)))), (.pointer (some ⟨b2, 1, none⟩)), (.float .f32 rh), (.float .f32 r31), (.pointer (some ⟨b2, 0, none⟩)), (.float .f32 rl), undef, undef, undef, undef, undef, undef, undef, undef, undef]) rfl rfl (does_load (u := (.float .f32 rl)) (ev rfl) Try.isAgg25 (Cells.at (Blk.cells (hB4.ext E12)) 0 rfl)) rfl ?_
    refine seqd rfl rfl (does_fneg' (ev rfl)) ?_; rintro _ _ ⟨r33, rfl, h34, rfl⟩
    show wpList _ _ _ _ (fr [(.agg #[(.float .f32 rl), (.float .f32 rh)]), (.pointer (some ⟨b2, 0, none⟩)), (.pointer (some ⟨b9, 0, none⟩)), (.pointer (some ⟨b2, 0, none⟩)), (.float .f32 rl), (.bool (fcmp .gtr (ford .f32 (cf .f32 rl) (cf .f32 0)))), undef, (.pointer (some ⟨b2, 1, none⟩)), (.float .f32 rh), (.bool (fcmp .lss (ford .f32 (cf .f32 rh) (cf .f32 0)))), (.pointer (some ⟨b2, 1, none⟩)), (.float .f32 rh), (.float .f32 r31), (.pointer (some ⟨b2, 0, none⟩)), (.float .f32 rl), (.float .f32 r33), undef, undef, undef, undef, undef, undef, undef, undef]) _
    refine q_is (l' := [(.agg #[(.float .f32 rl), (.float .f32 rh)]), (.pointer (some ⟨b2, 0, none⟩)), (.pointer (some ⟨b9, 0, none⟩)), (.pointer (some ⟨b2, 0, none⟩)), (.float .f32 rl), (.bool (fcmp .gtr (ford .f32 (cf .f32 rl) (cf .f32 0)))), undef, (.pointer (some ⟨b2, 1, none⟩)), (.float .f32 rh), (.bool (fcmp .lss (ford .f32 (cf .f32 rh) (cf .f32 0)))), (.pointer (some ⟨b2, 1, none⟩)), (.float .f32 rh), (.float .f32 r31), (.pointer (some ⟨b2, 0, none⟩)), (.float .f32 rl), (.float .f32 r33), (.agg #[(.float .f32 r31), (.float .f32 r33)]), undef, undef, undef, undef, undef, undef, undef]) rfl rfl (does_build (parts' := [(0, (.float .f32 r31)), (1, (.float .f32 r33))]) (cells := #[(.float .f32 r31), (.float .f32 r33)]) (evp rfl) (by kernel_rfl)) rfl ?_
    refine seqn rfl rfl (does_store (n := 2) (cs := [(.float .f32 0), (.float .f32 0)]) (u := (.agg #[(.float .f32 r31), (.float .f32 r33)])) (ev rfl) (ev rfl) Try.sizeOf41 rfl hB11 (Nat.le_of_ble_eq_true rfl) rfl) ?_; rintro _ w37 ⟨rfl, W35, hB36⟩
    change Blk _ _ [(.float .f32 r31), (.float .f32 r33)] at hB36
    have X38 := Below.wr X16 W35 g15
    refine wpList_nil (hK30 _ _ ?_)
    refine wp_ret ?_
    dsimp only [Exit.then, Exit.inBlock]
    refine ret_val (v := (.agg #[(.float .f32 r31), (.float .f32 r33)])) (res_C rfl (slot rfl) (run_loadAgg (cs := [(.float .f32 r31), (.float .f32 r33)]) Try.isAgg41 Try.sizeOf41 (Blk.cells hB36) rfl)) X38 ?_
    try simp only [h32, h34] at c19 c29
    have x39 : cf .f32 r31 = (szRange (cf .f32 rl) (cf .f32 rh)).1 := by first | rfl | (simp only [szRange, h32, h34, c19, c29]; done) | (simp [szRange, h32, h34, c19, c29]; done) | (revert c19 c29; simp +contextual [szRange, h32, h34]; done)
    have x40 : cf .f32 r33 = (szRange (cf .f32 rl) (cf .f32 rh)).2 := by first | rfl | (simp only [szRange, h32, h34, c19, c29]; done) | (simp [szRange, h32, h34, c19, c29]; done) | (revert c19 c29; simp +contextual [szRange, h32, h34]; done)
    exact ⟨r31, r33, rfl, x39, x40⟩
  have c29' := c29
  refine wp_skip (hK27 _ _ ?_)
  refine wp_seq_k fun K41 hK41 => ?_
  refine wp_region_lit ?_
  refine q_is (l' := [(.agg #[(.float .f32 rl), (.float .f32 rh)]), (.pointer (some ⟨b2, 0, none⟩)), (.pointer (some ⟨b9, 0, none⟩)), (.pointer (some ⟨b2, 0, none⟩)), (.float .f32 rl), (.bool (fcmp .gtr (ford .f32 (cf .f32 rl) (cf .f32 0)))), undef, (.pointer (some ⟨b2, 1, none⟩)), (.float .f32 rh), (.bool (fcmp .lss (ford .f32 (cf .f32 rh) (cf .f32 0)))), undef, undef, undef, undef, undef, undef, undef, (.pointer (some ⟨b2, 0, none⟩)), undef, undef, undef, undef, undef, undef]) rfl rfl (does_fieldAddr (ev rfl) fa41_0) rfl ?_
  refine q_is (l' := [(.agg #[(.float .f32 rl), (.float .f32 rh)]), (.pointer (some ⟨b2, 0, none⟩)), (.pointer (some ⟨b9, 0, none⟩)), (.pointer (some ⟨b2, 0, none⟩)), (.float .f32 rl), (.bool (fcmp .gtr (ford .f32 (cf .f32 rl) (cf .f32 0)))), undef, (.pointer (some ⟨b2, 1, none⟩)), (.float .f32 rh), (.bool (fcmp .lss (ford .f32 (cf .f32 rh) (cf .f32 0)))), undef, undef, undef, undef, undef, undef, undef, (.pointer (some ⟨b2, 0, none⟩)), (.float .f32 rl), undef, undef, undef, undef, undef]) rfl rfl (does_load (u := (.float .f32 rl)) (ev rfl) Try.isAgg25 (Cells.at (Blk.cells (hB4.ext E12)) 0 rfl)) rfl ?_
  refine seqd rfl rfl (does_fneg' (ev rfl)) ?_; rintro _ _ ⟨r42, rfl, h43, rfl⟩
  show wpList _ _ _ _ (fr [(.agg #[(.float .f32 rl), (.float .f32 rh)]), (.pointer (some ⟨b2, 0, none⟩)), (.pointer (some ⟨b9, 0, none⟩)), (.pointer (some ⟨b2, 0, none⟩)), (.float .f32 rl), (.bool (fcmp .gtr (ford .f32 (cf .f32 rl) (cf .f32 0)))), undef, (.pointer (some ⟨b2, 1, none⟩)), (.float .f32 rh), (.bool (fcmp .lss (ford .f32 (cf .f32 rh) (cf .f32 0)))), undef, undef, undef, undef, undef, undef, undef, (.pointer (some ⟨b2, 0, none⟩)), (.float .f32 rl), (.float .f32 r42), undef, undef, undef, undef]) _
  refine q_is (l' := [(.agg #[(.float .f32 rl), (.float .f32 rh)]), (.pointer (some ⟨b2, 0, none⟩)), (.pointer (some ⟨b9, 0, none⟩)), (.pointer (some ⟨b2, 0, none⟩)), (.float .f32 rl), (.bool (fcmp .gtr (ford .f32 (cf .f32 rl) (cf .f32 0)))), undef, (.pointer (some ⟨b2, 1, none⟩)), (.float .f32 rh), (.bool (fcmp .lss (ford .f32 (cf .f32 rh) (cf .f32 0)))), undef, undef, undef, undef, undef, undef, undef, (.pointer (some ⟨b2, 0, none⟩)), (.float .f32 rl), (.float .f32 r42), (.pointer (some ⟨b2, 1, none⟩)), undef, undef, undef]) rfl rfl (does_fieldAddr (ev rfl) fa41_1) rfl ?_
  refine q_is (l' := [(.agg #[(.float .f32 rl), (.float .f32 rh)]), (.pointer (some ⟨b2, 0, none⟩)), (.pointer (some ⟨b9, 0, none⟩)), (.pointer (some ⟨b2, 0, none⟩)), (.float .f32 rl), (.bool (fcmp .gtr (ford .f32 (cf .f32 rl) (cf .f32 0)))), undef, (.pointer (some ⟨b2, 1, none⟩)), (.float .f32 rh), (.bool (fcmp .lss (ford .f32 (cf .f32 rh) (cf .f32 0)))), undef, undef, undef, undef, undef, undef, undef, (.pointer (some ⟨b2, 0, none⟩)), (.float .f32 rl), (.float .f32 r42), (.pointer (some ⟨b2, 1, none⟩)), (.float .f32 rh), undef, undef]) rfl rfl (does_load (u := (.float .f32 rh)) (ev rfl) Try.isAgg25 (Cells.at (Blk.cells (hB4.ext E12)) 1 rfl)) rfl ?_
  refine seqd rfl rfl (does_call (args := #[(.float .f32 r42), (.float .f32 rh)]) cal98 (evs rfl) (c_spec_l02Greater r42 rh _)) ?_; rintro _ w45 ⟨E44, ⟨r46, rfl, h47⟩⟩
  have X48 := Ext.gr X16 E44
  show wpList _ _ _ _ (fr [(.agg #[(.float .f32 rl), (.float .f32 rh)]), (.pointer (some ⟨b2, 0, none⟩)), (.pointer (some ⟨b9, 0, none⟩)), (.pointer (some ⟨b2, 0, none⟩)), (.float .f32 rl), (.bool (fcmp .gtr (ford .f32 (cf .f32 rl) (cf .f32 0)))), undef, (.pointer (some ⟨b2, 1, none⟩)), (.float .f32 rh), (.bool (fcmp .lss (ford .f32 (cf .f32 rh) (cf .f32 0)))), undef, undef, undef, undef, undef, undef, undef, (.pointer (some ⟨b2, 0, none⟩)), (.float .f32 rl), (.float .f32 r42), (.pointer (some ⟨b2, 1, none⟩)), (.float .f32 rh), (.float .f32 r46), undef]) _
  refine q_is (l' := [(.agg #[(.float .f32 rl), (.float .f32 rh)]), (.pointer (some ⟨b2, 0, none⟩)), (.pointer (some ⟨b9, 0, none⟩)), (.pointer (some ⟨b2, 0, none⟩)), (.float .f32 rl), (.bool (fcmp .gtr (ford .f32 (cf .f32 rl) (cf .f32 0)))), undef, (.pointer (some ⟨b2, 1, none⟩)), (.float .f32 rh), (.bool (fcmp .lss (ford .f32 (cf .f32 rh) (cf .f32 0)))), undef, undef, undef, undef, undef, undef, undef, (.pointer (some ⟨b2, 0, none⟩)), (.float .f32 rl), (.float .f32 r42), (.pointer (some ⟨b2, 1, none⟩)), (.float .f32 rh), (.float .f32 r46), (.agg #[(.float .f32 0), (.float .f32 r46)])]) rfl rfl (does_build (parts' := [(0, (.float .f32 0)), (1, (.float .f32 r46))]) (cells := #[(.float .f32 0), (.float .f32 r46)]) (evp rfl) (by kernel_rfl)) rfl ?_
  refine seqn rfl rfl (does_store (n := 2) (cs := [(.float .f32 0), (.float .f32 0)]) (u := (.agg #[(.float .f32 0), (.float .f32 r46)])) (ev rfl) (ev rfl) Try.sizeOf41 rfl (hB11.ext E44) (Nat.le_of_ble_eq_true rfl) rfl) ?_; rintro _ w51 ⟨rfl, W49, hB50⟩
  change Blk _ _ [(.float .f32 0), (.float .f32 r46)] at hB50
  have X52 := Below.wr X48 W49 g15
  refine wpList_nil (hK41 _ _ ?_)
  refine wp_ret ?_
  refine ret_val (v := (.agg #[(.float .f32 0), (.float .f32 r46)])) (res_C rfl (slot rfl) (run_loadAgg (cs := [(.float .f32 0), (.float .f32 r46)]) Try.isAgg41 Try.sizeOf41 (Blk.cells hB50) rfl)) X52 ?_
  try simp only [h43, h47] at c19 c29
  have x53 : cf .f32 0 = (szRange (cf .f32 rl) (cf .f32 rh)).1 := by first | rfl | (simp only [szRange, h43, h47, c19, c29]; done) | (simp [szRange, h43, h47, c19, c29]; done) | (revert c19 c29; simp +contextual [szRange, h43, h47]; done)
  have x54 : cf .f32 r46 = (szRange (cf .f32 rl) (cf .f32 rh)).2 := by first | rfl | (simp only [szRange, h43, h47, c19, c29]; done) | (simp [szRange, h43, h47, c19, c29]; done) | (revert c19 c29; simp +contextual [szRange, h43, h47]; done)
  exact ⟨0, r46, rfl, x53, x54⟩

/- spec.SizeRange -/
theorem c_spec_SizeRange (rl : Nat) (rh : Nat) (w : World) : Gives Try.prog 23 #[(.agg #[(.float .f32 rl), (.float .f32 rh)])] w (fun v w' => ∃ r_1 : Nat, ∃ r_2 : Nat, v = (.agg #[(.float .f32 r_1), (.float .f32 r_2)]) ∧ cf .f32 r_1 = (szRange (cf .f32 rl) (cf .f32 rh)).1 ∧ cf .f32 r_2 = (szRange (cf .f32 rl) (cf .f32 rh)).2) := by
  refine enter [(.agg #[(.float .f32 rl), (.float .f32 rh)]), undef, undef, undef, undef] Try.func23 rfl Try.ntmps23 rfl ?_
  refine wp_seq_k fun K1 hK1 => ?_
  refine wp_region_lit ?_
  refine seqd rfl rfl (does_box (u := (.agg #[(.float .f32 rl), (.float .f32 rh)])) (ev rfl)) ?_; rintro _ w6 ⟨b2, rfl, hb3, hB4, E5⟩
  have g7 : w.heap.size ≤ b2 := Nat.le_trans (Below.size (Ext.refl w)) hb3
  change Blk _ _ [(.float .f32 rl), (.float .f32 rh)] at hB4
  have X8 := Ext.gr (Ext.refl w) E5
  show wpList _ _ _ _ (fr [(.agg #[(.float .f32 rl), (.float .f32 rh)]), (.pointer (some ⟨b2, 0, none⟩)), undef, undef, undef]) _
  refine seqd rfl rfl (does_alloc z41) ?_; rintro _ w13 ⟨b9, rfl, hb10, hB11, E12⟩
  have n14 : b2 < b9 := Nat.lt_of_lt_of_le (Blk.lt hB4) hb10
  have g15 : w.heap.size ≤ b9 := Nat.le_trans (Below.size X8) hb10
  change Blk _ _ [(.float .f32 0), (.float .f32 0)] at hB11
  have X16 := Ext.gr X8 E12
  show wpList _ _ _ _ (fr [(.agg #[(.float .f32 rl), (.float .f32 rh)]), (.pointer (some ⟨b2, 0, none⟩)), (.pointer (some ⟨b9, 0, none⟩)), undef, undef]) _
  refine wpList_nil (hK1 _ _ ?_)
  refine wp_seq_k fun K17 hK17 => ?_
  refine wp_region_lit ?_
  refine q_is (l' := [(.agg #[(.float .f32 rl), (.float .f32 rh)]), (.pointer (some ⟨b2, 0, none⟩)), (.pointer (some ⟨b9, 0, none⟩)), (.agg #[(.float .f32 rl), (.float .f32 rh)]), undef]) rfl rfl (does_loadAgg (cs := [(.float .f32 rl), (.float .f32 rh)]) (ev rfl) Try.isAgg41 Try.sizeOf41 (Blk.cells (hB4.ext E12)) rfl) rfl ?_
  refine seqd rfl rfl (does_call (args := #[(.agg #[(.float .f32 rl), (.float .f32 rh)])]) cal54 (evs rfl) (c_spec_l04Size rl rh _)) ?_; rintro _ w19 ⟨E18, ⟨r20, r21, rfl, h22, h23⟩⟩
  have X24 := Ext.gr X16 E18
  show wpList _ _ _ _ (fr [(.agg #[(.float .f32 rl), (.float .f32 rh)]), (.pointer (some ⟨b2, 0, none⟩)), (.pointer (some ⟨b9, 0, none⟩)), (.agg #[(.float .f32 rl), (.float .f32 rh)]), (.agg #[(.float .f32 r20), (.float .f32 r21)])]) _
  refine seqn rfl rfl (does_store (n := 2) (cs := [(.float .f32 0), (.float .f32 0)]) (u := (.agg #[(.float .f32 r20), (.float .f32 r21)])) (ev rfl) (ev rfl) Try.sizeOf41 rfl (hB11.ext E18) (Nat.le_of_ble_eq_true rfl) rfl) ?_; rintro _ w27 ⟨rfl, W25, hB26⟩
  change Blk _ _ [(.float .f32 r20), (.float .f32 r21)] at hB26
  have X28 := Below.wr X24 W25 g15
  refine wpList_nil (hK17 _ _ ?_)
  refine wp_ret ?_
  refine ret_val (v := (.agg #[(.float .f32 r20), (.float .f32 r21)])) (res_C rfl (slot rfl) (run_loadAgg (cs := [(.float .f32 r20), (.float .f32 r21)]) Try.isAgg41 Try.sizeOf41 (Blk.cells hB26) rfl)) X28 ?_
  have x29 : cf .f32 r20 = (szRange (cf .f32 rl) (cf .f32 rh)).1 := by first | rfl | (simp only [szRange, h22, h23]; done) | (simp [szRange, h22, h23]; done)
  have x30 : cf .f32 r21 = (szRange (cf .f32 rl) (cf .f32 rh)).2 := by first | rfl | (simp only [szRange, h22, h23]; done) | (simp [szRange, h22, h23]; done)
  exact ⟨r20, r21, rfl, x29, x30⟩

/- laws.toRange -/
theorem c_laws_toRange (rl : Nat) (rh : Nat) (w : World) : Gives Try.prog 24 #[(.agg #[(.float .f32 rl), (.float .f32 rh)])] w (fun v w' => ∃ r_1 : Nat, ∃ r_2 : Nat, v = (.agg #[(.float .f32 r_1), (.float .f32 r_2)]) ∧ cf .f32 r_1 = (cf .f32 rl) ∧ cf .f32 r_2 = (cf .f32 rh)) := by
  refine enter [(.agg #[(.float .f32 rl), (.float .f32 rh)]), undef, undef, undef, undef, undef, undef, undef, undef, undef, undef] Try.func24 rfl Try.ntmps24 rfl ?_
  refine wp_seq_k fun K1 hK1 => ?_
  refine wp_region_lit ?_
  refine seqd rfl rfl (does_box (u := (.agg #[(.float .f32 rl), (.float .f32 rh)])) (ev rfl)) ?_; rintro _ w6 ⟨b2, rfl, hb3, hB4, E5⟩
  have g7 : w.heap.size ≤ b2 := Nat.le_trans (Below.size (Ext.refl w)) hb3
  change Blk _ _ [(.float .f32 rl), (.float .f32 rh)] at hB4
  have X8 := Ext.gr (Ext.refl w) E5
  show wpList _ _ _ _ (fr [(.agg #[(.float .f32 rl), (.float .f32 rh)]), (.pointer (some ⟨b2, 0, none⟩)), undef, undef, undef, undef, undef, undef, undef, undef, undef]) _
  refine seqd rfl rfl (does_alloc z41) ?_; rintro _ w13 ⟨b9, rfl, hb10, hB11, E12⟩
  have n14 : b2 < b9 := Nat.lt_of_lt_of_le (Blk.lt hB4) hb10
  have g15 : w.heap.size ≤ b9 := Nat.le_trans (Below.size X8) hb10
  change Blk _ _ [(.float .f32 0), (.float .f32 0)] at hB11
  have X16 := Ext.gr X8 E12
  show wpList _ _ _ _ (fr [(.agg #[(.float .f32 rl), (.float .f32 rh)]), (.pointer (some ⟨b2, 0, none⟩)), (.pointer (some ⟨b9, 0, none⟩)), undef, undef, undef, undef, undef, undef, undef, undef]) _
  refine wpList_nil (hK1 _ _ ?_)
  refine wp_seq_k fun K17 hK17 => ?_
  refine wp_region_lit ?_
  refine seqd rfl rfl (does_alloc z41) ?_; rintro _ w22 ⟨b18, rfl, hb19, hB20, E21⟩
  have n23 : b2 < b18 := Nat.lt_of_lt_of_le (Blk.lt (hB4.ext E12)) hb19
  have n24 : b9 < b18 := Nat.lt_of_lt_of_le (Blk.lt hB11) hb19
  have g25 : w.heap.size ≤ b18 := Nat.le_trans (Below.size X16) hb19
  change Blk _ _ [(.float .f32 0), (.float .f32 0)] at hB20
  have X26 := Ext.gr X16 E21
  show wpList _ _ _ _ (fr [(.agg #[(.float .f32 rl), (.float .f32 rh)]), (.pointer (some ⟨b2, 0, none⟩)), (.pointer (some ⟨b9, 0, none⟩)), (.pointer (some ⟨b18, 0, none⟩)), undef, undef, undef, undef, undef, undef, undef]) _
  refine wpList_nil (hK17 _ _ ?_)
  refine wp_seq_k fun K27 hK27 => ?_
  refine wp_region_lit ?_
  refine q_is (l' := [(.agg #[(.float .f32 rl), (.float .f32 rh)]), (.pointer (some ⟨b2, 0, none⟩)), (.pointer (some ⟨b9, 0, none⟩)), (.pointer (some ⟨b18, 0, none⟩)), (.pointer (some ⟨b2, 0, none⟩)), undef, undef, undef, undef, undef, undef]) rfl rfl (does_fieldAddr (ev rfl) fa40_0) rfl ?_
  refine q_is (l' := [(.agg #[(.float .f32 rl), (.float .f32 rh)]), (.pointer (some ⟨b2, 0, none⟩)), (.pointer (some ⟨b9, 0, none⟩)), (.pointer (some ⟨b18, 0, none⟩)), (.pointer (some ⟨b2, 0, none⟩)), (.float .f32 rl), undef, undef, undef, undef, undef]) rfl rfl (does_load (u := (.float .f32 rl)) (ev rfl) Try.isAgg25 (Cells.at (Blk.cells ((hB4.ext E12).ext E21)) 0 rfl)) rfl ?_
  refine q_is (l' := [(.agg #[(.float .f32 rl), (.float .f32 rh)]), (.pointer (some ⟨b2, 0, none⟩)), (.pointer (some ⟨b9, 0, none⟩)), (.pointer (some ⟨b18, 0, none⟩)), (.pointer (some ⟨b2, 0, none⟩)), (.float .f32 rl), (.pointer (some ⟨b18, 0, none⟩)), undef, undef, undef, undef]) rfl rfl (does_fieldAddr (ev rfl) fa41_0) rfl ?_
  refine seqn rfl rfl (does_store (n := 1) (cs := [(.float .f32 0), (.float .f32 0)]) (u := (.float .f32 rl)) (ev rfl) (ev rfl) Try.sizeOf25 rfl hB20 (Nat.le_of_ble_eq_true rfl) rfl) ?_; rintro _ w30 ⟨rfl, W28, hB29⟩
  change Blk _ _ [(.float .f32 rl), (.float .f32 0)] at hB29
  have X31 := Below.wr X26 W28 g25
  refine wpList_nil (hK27 _ _ ?_)
  refine wp_seq_k fun K32 hK32 => ?_
  refine wp_region_lit ?_
  refine q_is (l' := [(.agg #[(.float .f32 rl), (.float .f32 rh)]), (.pointer (some ⟨b2, 0, none⟩)), (.pointer (some ⟨b9, 0, none⟩)), (.pointer (some ⟨b18, 0, none⟩)), (.pointer (some ⟨b2, 0, none⟩)), (.float .f32 rl), (.pointer (some ⟨b18, 0, none⟩)), (.pointer (some ⟨b2, 1, none⟩)), undef, undef, undef]) rfl rfl (does_fieldAddr (ev rfl) fa40_1) rfl ?_
  refine q_is (l' := [(.agg #[(.float .f32 rl), (.float .f32 rh)]), (.pointer (some ⟨b2, 0, none⟩)), (.pointer (some ⟨b9, 0, none⟩)), (.pointer (some ⟨b18, 0, none⟩)), (.pointer (some ⟨b2, 0, none⟩)), (.float .f32 rl), (.pointer (some ⟨b18, 0, none⟩)), (.pointer (some ⟨b2, 1, none⟩)), (.float .f32 rh), undef, undef]) rfl rfl (does_load (u := (.float .f32 rh)) (ev rfl) Try.isAgg25 (Cells.at (Blk.cells (((hB4.ext E12).ext E21).wr W28 (Nat.ne_of_lt n23))) 1 rfl)) rfl ?_
  refine q_is (l' := [(.agg #[(.float .f32 rl), (.float .f32 rh)]), (.pointer (some ⟨b2, 0, none⟩)), (.pointer (some ⟨b9, 0, none⟩)), (.pointer (some ⟨b18, 0, none⟩)), (.pointer (some ⟨b2, 0, none⟩)), (.float .f32 rl), (.pointer (some ⟨b18, 0, none⟩)), (.pointer (some ⟨b2, 1, none⟩)), (.float .f32 rh), (.pointer (some ⟨b18, 1, none⟩)), undef]) rfl rfl (does_fieldAddr (ev rfl) fa41_1) rfl ?_
  refine seqn rfl rfl (does_store (n := 1) (cs := [(.float .f32 rl), (.float .f32 0)]) (u := (.float .f32 rh)) (ev rfl) (ev rfl) Try.sizeOf25 rfl hB29 (Nat.le_of_ble_eq_true rfl) rfl) ?_; rintro _ w35 ⟨rfl, W33, hB34⟩
  change Blk _ _ [(.float .f32 rl), (.float .f32 rh)] at hB34
  have X36 := Below.wr X31 W33 g25
  refine wpList_nil (hK32 _ _ ?_)
  refine wp_seq_k fun K37 hK37 => ?_
  refine wp_region_lit ?_
  refine q_is (l' := [(.agg #[(.float .f32 rl), (.float .f32 rh)]), (.pointer (some ⟨b2, 0, none⟩)), (.pointer (some ⟨b9, 0, none⟩)), (.pointer (some ⟨b18, 0, none⟩)), (.pointer (some ⟨b2, 0, none⟩)), (.float .f32 rl), (.pointer (some ⟨b18, 0, none⟩)), (.pointer (some ⟨b2, 1, none⟩)), (.float .f32 rh), (.pointer (some ⟨b18, 1, none⟩)), (.agg #[(.float .f32 rl), (.float .f32 rh)])]) rfl rfl (does_loadAgg (cs := [(.float .f32 rl), (.float .f32 rh)]) (ev rfl) Try.isAgg41 Try.sizeOf41 (Blk.cells hB34) rfl) rfl ?_
  refine seqn rfl rfl (does_store (n := 2) (cs := [(.float .f32 0), (.float .f32 0)]) (u := (.agg #[(.float .f32 rl), (.float .f32 rh)])) (ev rfl) (ev rfl) Try.sizeOf41 rfl (((hB11.ext E21).wr W28 (Nat.ne_of_lt n24)).wr W33 (Nat.ne_of_lt n24)) (Nat.le_of_ble_eq_true rfl) rfl) ?_; rintro _ w40 ⟨rfl, W38, hB39⟩
  change Blk _ _ [(.float .f32 rl), (.float .f32 rh)] at hB39
  have X41 := Below.wr X36 W38 g15
  refine wpList_nil (hK37 _ _ ?_)
  refine wp_ret ?_
  refine ret_val (v := (.agg #[(.float .f32 rl), (.float .f32 rh)])) (res_C rfl (slot rfl) (run_loadAgg (cs := [(.float .f32 rl), (.float .f32 rh)]) Try.isAgg41 Try.sizeOf41 (Blk.cells hB39) rfl)) X41 ?_
  have x42 : cf .f32 rl = (cf .f32 rl) := by first | rfl | (simp only []; done) | (simp []; done)
  have x43 : cf .f32 rh = (cf .f32 rh) := by first | rfl | (simp only []; done) | (simp []; done)
  exact ⟨rl, rh, rfl, x42, x43⟩

/- impl.greater -/
theorem c_impl_greater (x : Nat) (y : Nat) (w : World) : Gives Try.prog 55 #[(.float .f32 x), (.float .f32 y)] w (fun v w' => ∃ r_1 : Nat, v = (.float .f32 r_1) ∧ cf .f32 r_1 = fmaxG (cf .f32 x) (cf .f32 y)) := by
  refine enter [(.float .f32 x), (.float .f32 y), undef, undef, undef, undef, undef, undef, undef, undef] Try.func55 rfl Try.ntmps55 rfl ?_
  refine wp_seq_k fun K1 hK1 => ?_
  refine wp_region_lit ?_
  refine q_is (l' := [(.float .f32 x), (.float .f32 y), undef, undef, (.float .f32 0), undef, undef, undef, undef, undef]) rfl rfl (does_assign (u := (.float .f32 0)) (ev rfl)) rfl ?_
  refine wpList_nil (hK1 _ _ ?_)
  refine wp_seq_k fun K2 hK2 => ?_
  refine wp_seq_k fun K3 hK3 => ?_
  refine wp_region_lit ?_
  refine q_is (l' := [(.float .f32 x), (.float .f32 y), undef, undef, (.float .f32 0), (.float .f32 y), undef, undef, undef, undef]) rfl rfl (does_move (u := (.float .f32 y)) (ev rfl)) rfl ?_
  refine q_is (l' := [(.float .f32 x), (.float .f32 y), undef, undef, (.float .f32 0), (.float .f32 y), (.float .f32 x), undef, undef, undef]) rfl rfl (does_move (u := (.float .f32 x)) (ev rfl)) rfl ?_
  refine q_is (l' := [(.float .f32 x), (.float .f32 y), undef, undef, (.float .f32 0), (.float .f32 y), (.float .f32 x), (.bool (fcmp .gtr (ford .f32 (cf .f32 y) (cf .f32 x)))), undef, undef]) rfl rfl (does_fcmp (.inr (.inr (.inr (.inr (.inl rfl))))) (ev rfl) (ev rfl)) rfl ?_
  refine wpList_nil (hK3 _ _ ?_)
  refine wp_cond_split (t := fcmp .gtr (ford .f32 (cf .f32 y) (cf .f32 x))) (ev rfl) (fun c4 => ?_) (fun c4 => ?_)
  · have c4' := c4
    refine wp_seq_k fun K5 hK5 => ?_
    refine wp_region_lit ?_
    refine q_is (l' := [(.float .f32 x), (.float .f32 y), undef, undef, (.float .f32 0), (.float .f32 y), (.float .f32 x), (.bool (fcmp .gtr (ford .f32 (cf .f32 y) (cf .f32 x)))), (.float .f32 y), undef]) rfl rfl (does_move (u := (.float .f32 y)) (ev rfl)) rfl ?_
    refine q_is (l' := [(.float .f32 x), (.float .f32 y), undef, undef, (.float .f32 y), (.float .f32 y), (.float .f32 x), (.bool (fcmp .gtr (ford .f32 (cf .f32 y) (cf .f32 x)))), (.float .f32 y), undef]) rfl rfl (does_assign (u := (.float .f32 y)) (ev rfl)) rfl ?_
    refine wpList_nil (hK5 _ _ ?_)
    refine wp_ret ?_
    dsimp only [Exit.then, Exit.inBlock]
    refine ret_val (v := (.float .f32 y)) (res_T rfl (slot rfl)) (Ext.refl w) ?_
    have x6 : cf .f32 y = fmaxG (cf .f32 x) (cf .f32 y) := by first | rfl | (simp only [fmaxG, c4]; done) | (simp [fmaxG, c4]; done) | (revert c4; simp +contextual [fmaxG]; done)
    exact ⟨y, rfl, x6⟩
  have c4' := c4
  refine wp_skip (hK2 _ _ ?_)
  refine wp_seq_k fun K7 hK7 => ?_
  refine wp_region_lit ?_
  refine q_is (l' := [(.float .f32 x), (.float .f32 y), undef, undef, (.float .f32 0), (.float .f32 y), (.float .f32 x), (.bool (fcmp .gtr (ford .f32 (cf .f32 y) (cf .f32 x)))), undef, (.float .f32 x)]) rfl rfl (does_move (u := (.float .f32 x)) (ev rfl)) rfl ?_
  refine q_is (l' := [(.float .f32 x), (.float .f32 y), undef, undef, (.float .f32 x), (.float .f32 y), (.float .f32 x), (.bool (fcmp .gtr (ford .f32 (cf .f32 y) (cf .f32 x)))), undef, (.float .f32 x)]) rfl rfl (does_assign (u := (.float .f32 x)) (ev rfl)) rfl ?_
  refine wpList_nil (hK7 _ _ ?_)
  refine wp_ret ?_
  refine ret_val (v := (.float .f32 x)) (res_T rfl (slot rfl)) (Ext.refl w) ?_
  have x8 : cf .f32 x = fmaxG (cf .f32 x) (cf .f32 y) := by first | rfl | (simp only [fmaxG, c4]; done) | (simp [fmaxG, c4]; done) | (revert c4; simp +contextual [fmaxG]; done)
  exact ⟨x, rfl, x8⟩

/- impl.SizeRange -/
theorem c_impl_SizeRange (rl : Nat) (rh : Nat) (w : World) : Gives Try.prog 25 #[(.agg #[(.float .f32 rl), (.float .f32 rh)])] w (fun v w' => ∃ r_1 : Nat, ∃ r_2 : Nat, v = (.agg #[(.float .f32 r_1), (.float .f32 r_2)]) ∧ cf .f32 r_1 = (szRange (cf .f32 rl) (cf .f32 rh)).1 ∧ cf .f32 r_2 = (szRange (cf .f32 rl) (cf .f32 rh)).2) := by
  refine enter [(.agg #[(.float .f32 rl), (.float .f32 rh)]), undef, undef, undef, undef, undef, undef, undef, undef, undef, undef, undef, undef, undef, undef, undef, undef, undef, undef, undef, undef, undef, undef, undef, undef, undef] Try.func25 rfl Try.ntmps25 rfl ?_
  refine wp_seq_k fun K1 hK1 => ?_
  refine wp_region_lit ?_
  refine seqd rfl rfl (does_box (u := (.agg #[(.float .f32 rl), (.float .f32 rh)])) (ev rfl)) ?_; rintro _ w6 ⟨b2, rfl, hb3, hB4, E5⟩
  have g7 : w.heap.size ≤ b2 := Nat.le_trans (Below.size (Ext.refl w)) hb3
  change Blk _ _ [(.float .f32 rl), (.float .f32 rh)] at hB4
  have X8 := Ext.gr (Ext.refl w) E5
  show wpList _ _ _ _ (fr [(.agg #[(.float .f32 rl), (.float .f32 rh)]), (.pointer (some ⟨b2, 0, none⟩)), undef, undef, undef, undef, undef, undef, undef, undef, undef, undef, undef, undef, undef, undef, undef, undef, undef, undef, undef, undef, undef, undef, undef, undef]) _
  refine seqd rfl rfl (does_alloc z41) ?_; rintro _ w13 ⟨b9, rfl, hb10, hB11, E12⟩
  have n14 : b2 < b9 := Nat.lt_of_lt_of_le (Blk.lt hB4) hb10
  have g15 : w.heap.size ≤ b9 := Nat.le_trans (Below.size X8) hb10
  change Blk _ _ [(.float .f32 0), (.float .f32 0)] at hB11
  have X16 := Ext.gr X8 E12
  show wpList _ _ _ _ (fr [(.agg #[(.float .f32 rl), (.float .f32 rh)]), (.pointer (some ⟨b2, 0, none⟩)), (.pointer (some ⟨b9, 0, none⟩)), undef, undef, undef, undef, undef, undef, undef, undef, undef, undef, undef, undef, undef, undef, undef, undef, undef, undef, undef, undef, undef, undef, undef]) _
  refine wpList_nil (hK1 _ _ ?_)
  refine wp_seq_k fun K17 hK17 => ?_
  refine wp_block ?_
  refine wp_seq_k fun K18 hK18 => ?_
  refine wp_region_lit ?_
  refine q_is (l' := [(.agg #[(.float .f32 rl), (.float .f32 rh)]), (.pointer (some ⟨b2, 0, none⟩)), (.pointer (some ⟨b9, 0, none⟩)), undef, (.pointer (some ⟨b2, 0, none⟩)), undef, undef, undef, undef, undef, undef, undef, undef, undef, undef, undef, undef, undef, undef, undef, undef, undef, undef, undef, undef, undef]) rfl rfl (does_fieldAddr (ev rfl) fa41_0) rfl ?_
  refine q_is (l' := [(.agg #[(.float .f32 rl), (.float .f32 rh)]), (.pointer (some ⟨b2, 0, none⟩)), (.pointer (some ⟨b9, 0, none⟩)), undef, (.pointer (some ⟨b2, 0, none⟩)), (.float .f32 rl), undef, undef, undef, undef, undef, undef, undef, undef, undef, undef, undef, undef, undef, undef, undef, undef, undef, undef, undef, undef]) rfl rfl (does_load (u := (.float .f32 rl)) (ev rfl) Try.isAgg25 (Cells.at (Blk.cells (hB4.ext E12)) 0 rfl)) rfl ?_
  refine q_is (l' := [(.agg #[(.float .f32 rl), (.float .f32 rh)]), (.pointer (some ⟨b2, 0, none⟩)), (.pointer (some ⟨b9, 0, none⟩)), undef, (.pointer (some ⟨b2, 0, none⟩)), (.float .f32 rl), (.bool (fcmp .gtr (ford .f32 (cf .f32 rl) (cf .f32 0)))), undef, undef, undef, undef, undef, undef, undef, undef, undef, undef, undef, undef, undef, undef, undef, undef, undef, undef, undef]) rfl rfl (does_fcmp (.inr (.inr (.inr (.inr (.inl rfl))))) (ev rfl) (ev rfl)) rfl ?_
  refine q_is (l' := [(.agg #[(.float .f32 rl), (.float .f32 rh)]), (.pointer (some ⟨b2, 0, none⟩)), (.pointer (some ⟨b9, 0, none⟩)), (.bool (fcmp .gtr (ford .f32 (cf .f32 rl) (cf .f32 0)))), (.pointer (some ⟨b2, 0, none⟩)), (.float .f32 rl), (.bool (fcmp .gtr (ford .f32 (cf .f32 rl) (cf .f32 0)))), undef, undef, undef, undef, undef, undef, undef, undef, undef, undef, undef, undef, undef, undef, undef, undef, undef, undef, undef]) rfl rfl (does_assign (u := (.bool (fcmp .gtr (ford .f32 (cf .f32 rl) (cf .f32 0))))) (ev rfl)) rfl ?_
  refine wpList_nil (hK18 _ _ ?_)
  refine wp_cond_split (t := fcmp .gtr (ford .f32 (cf .f32 rl) (cf .f32 0))) (ev rfl) (fun c19 => ?_) (fun c19 => ?_)
  · have c19' := c19
    refine wp_seq_k fun K20 hK20 => ?_
    refine wp_region_lit ?_
    refine q_is (l' := [(.agg #[(.float .f32 rl), (.float .f32 rh)]), (.pointer (some ⟨b2, 0, none⟩)), (.pointer (some ⟨b9, 0, none⟩)), (.bool (fcmp .gtr (ford .f32 (cf .f32 rl) (cf .f32 0)))), (.pointer (some ⟨b2, 0, none⟩)), (.float .f32 rl), (.bool (fcmp .gtr (ford .f32 (cf .f32 rl) (cf .f32 0)))), (.agg #[(.float .f32 rl), (.float .f32 rh)]), undef, undef, undef, undef, undef, undef, undef, undef, undef, undef, undef, undef, undef, undef, undef, undef, undef, undef]) rfl rfl (does_loadAgg (cs := [(.float .f32 rl), (.float .f32 rh)]) (ev rfl) Try.isAgg41 Try.sizeOf41 (Blk.cells (hB4.ext E12)) rfl) rfl ?_
    refine seqn rfl rfl (does_store (n := 2) (cs := [(.float .f32 0), (.float .f32 0)]) (u := (.agg #[(.float .f32 rl), (.float .f32 rh)])) (ev rfl) (ev rfl) Try.sizeOf41 rfl hB11 (Nat.le_of_ble_eq_true rfl) rfl) ?_; rintro _ w23 ⟨rfl, W21, hB22⟩
    change Blk _ _ [(.float .f32 rl), (.float .f32 rh)] at hB22
    have X24 := Below.wr X16 W21 g15
    refine wpList_nil (hK20 _ _ ?_)
    refine wp_ret ?_
    dsimp only [Exit.then, Exit.inBlock]
    refine ret_val (v := (.agg #[(.float .f32 rl), (.float .f32 rh)])) (res_C rfl (slot rfl) (run_loadAgg (cs := [(.float .f32 rl), (.float .f32 rh)]) Try.isAgg41 Try.sizeOf41 (Blk.cells hB22) rfl)) X24 ?_
    have x25 : cf .f32 rl = (szRange (cf .f32 rl) (cf .f32 rh)).1 := by first | rfl | (simp only [szRange, c19]; done) | (simp [szRange, c19]; done) | (revert c19; simp +contextual [szRange]; done)
    have x26 : cf .f32 rh = (szRange (cf .f32 rl) (cf .f32 rh)).2 := by first | rfl | (simp only [szRange, c19]; done) | (simp [szRange, c19]; done) | (revert c19; simp +contextual [szRange]; done)
    exact ⟨rl, rh, rfl, x25, x26⟩
  have c19' := c19
  refine wp_seq_k fun K27 hK27 => ?_
  refine wp_region_lit ?_
  refine q_is (l' := [(.agg #[(.float .f32 rl), (.float .f32 rh)]), (.pointer (some ⟨b2, 0, none⟩)), (.pointer (some ⟨b9, 0, none⟩)), (.bool (fcmp .gtr (ford .f32 (cf .f32 rl) (cf .f32 0)))), (.pointer (some ⟨b2, 0, none⟩)), (.float .f32 rl), (.bool (fcmp .gtr (ford .f32 (cf .f32 rl) (cf .f32 0)))), undef, undef, (.pointer (some ⟨b2, 1, none⟩)), undef, undef, undef, undef, undef, undef, undef, undef, undef, undef, undef, undef, undef, undef, undef, undef]) rfl rfl (does_fieldAddr (ev rfl) fa41_1) rfl ?_
  refine q_is (l' := [(.agg #[(.float .f32 rl), (.float .f32 rh)]), (.pointer (some ⟨b2, 0, none⟩)), (.pointer (some ⟨b9, 0, none⟩)), (.bool (fcmp .gtr (ford .f32 (cf .f32 rl) (cf .f32 0)))), (.pointer (some ⟨b2, 0, none⟩)), (.float .f32 rl), (.bool (fcmp .gtr (ford .f32 (cf .f32 rl) (cf .f32 0)))), undef, undef, (.pointer (some ⟨b2, 1, none⟩)), (.float .f32 rh), undef, undef, undef, undef, undef, undef, undef, undef, undef, undef, undef, undef, undef, undef, undef]) rfl rfl (does_load (u := (.float .f32 rh)) (ev rfl) Try.isAgg25 (Cells.at (Blk.cells (hB4.ext E12)) 1 rfl)) rfl ?_
  refine q_is (l' := [(.agg #[(.float .f32 rl), (.float .f32 rh)]), (.pointer (some ⟨b2, 0, none⟩)), (.pointer (some ⟨b9, 0, none⟩)), (.bool (fcmp .gtr (ford .f32 (cf .f32 rl) (cf .f32 0)))), (.pointer (some ⟨b2, 0, none⟩)), (.float .f32 rl), (.bool (fcmp .gtr (ford .f32 (cf .f32 rl) (cf .f32 0)))), undef, undef, (.pointer (some ⟨b2, 1, none⟩)), (.float .f32 rh), (.bool (fcmp .lss (ford .f32 (cf .f32 rh) (cf .f32 0)))), undef, undef, undef, undef, undef, undef, undef, undef, undef, undef, undef, undef, undef, undef]) rfl rfl (does_fcmp (.inr (.inr (.inl rfl))) (ev rfl) (ev rfl)) rfl ?_
  refine q_is (l' := [(.agg #[(.float .f32 rl), (.float .f32 rh)]), (.pointer (some ⟨b2, 0, none⟩)), (.pointer (some ⟨b9, 0, none⟩)), (.bool (fcmp .gtr (ford .f32 (cf .f32 rl) (cf .f32 0)))), (.pointer (some ⟨b2, 0, none⟩)), (.float .f32 rl), (.bool (fcmp .gtr (ford .f32 (cf .f32 rl) (cf .f32 0)))), undef, (.bool (fcmp .lss (ford .f32 (cf .f32 rh) (cf .f32 0)))), (.pointer (some ⟨b2, 1, none⟩)), (.float .f32 rh), (.bool (fcmp .lss (ford .f32 (cf .f32 rh) (cf .f32 0)))), undef, undef, undef, undef, undef, undef, undef, undef, undef, undef, undef, undef, undef, undef]) rfl rfl (does_assign (u := (.bool (fcmp .lss (ford .f32 (cf .f32 rh) (cf .f32 0))))) (ev rfl)) rfl ?_
  refine wpList_nil (hK27 _ _ ?_)
  refine wp_cond_split (t := fcmp .lss (ford .f32 (cf .f32 rh) (cf .f32 0))) (ev rfl) (fun c28 => ?_) (fun c28 => ?_)
  · have c28' := c28
    refine wp_seq_k fun K29 hK29 => ?_
    refine wp_region_lit ?_
    refine q_is (l' := [(.agg #[(.float .f32 rl), (.float .f32 rh)]), (.pointer (some ⟨b2, 0, none⟩)), (.pointer (some ⟨b9, 0, none⟩)), (.bool (fcmp .gtr (ford .f32 (cf .f32 rl) (cf .f32 0)))), (.pointer (some ⟨b2, 0, none⟩)), (.float .f32 rl), (.bool (fcmp .gtr (ford .f32 (cf .f32 rl) (cf .f32 0)))), undef, (.bool (fcmp .lss (ford .f32 (cf .f32 rh) (cf .f32 0)))), (.pointer (some ⟨b2, 1, none⟩)), (.float .f32 rh), (.bool (fcmp .lss (ford .f32 (cf .f32 rh) (cf .f32 0)))), (.pointer (some ⟨b2, 1, none⟩)), undef, undef, undef, undef, undef, undef, undef, undef, undef, undef, undef, undef, undef]) rfl rfl (does_fieldAddr (ev rfl) fa41_1) rfl ?_
    refine q_is (l' := [(.agg #[(.float .f32 rl), (.float .f32 rh)]), (.pointer (some ⟨b2, 0, none⟩)), (.pointer (some ⟨b9, 0, none⟩)), (.bool (fcmp .gtr (ford .f32 (cf .f32 rl) (cf .f32 0)))), (.pointer (some ⟨b2, 0, none⟩)), (.float .f32 rl), (.bool (fcmp .gtr (ford .f32 (cf .f32 rl) (cf .f32 0)))), undef, (.bool (fcmp .lss (ford .f32 (cf .f32 rh) (cf .f32 0)))), (.pointer (some ⟨b2, 1, none⟩)), (.float .f32 rh), (.bool (fcmp .lss (ford .f32 (cf .f32 rh) (cf .f32 0)))), (.pointer (some ⟨b2, 1, none⟩)), (.float .f32 rh), undef, undef, undef, undef, undef, undef, undef, undef, undef, undef, undef, undef]) rfl rfl (does_load (u := (.float .f32 rh)) (ev rfl) Try.isAgg25 (Cells.at (Blk.cells (hB4.ext E12)) 1 rfl)) rfl ?_
    refine seqd rfl rfl (does_fneg' (ev rfl)) ?_; rintro _ _ ⟨r30, rfl, h31, rfl⟩
    show wpList _ _ _ _ (fr [(.agg #[(.float .f32 rl), (.float .f32 rh)]), (.pointer (some ⟨b2, 0, none⟩)), (.pointer (some ⟨b9, 0, none⟩)), (.bool (fcmp .gtr (ford .f32 (cf .f32 rl) (cf .f32 0)))), (.pointer (some ⟨b2, 0, none⟩)), (.float .f32 rl), (.bool (fcmp .gtr (ford .f32 (cf .f32 rl) (cf .f32 0)))), undef, (.bool (fcmp .lss (ford .f32 (cf .f32 rh) (cf .f32 0)))), (.pointer (some ⟨b2, 1, none⟩)), (.float .f32 rh), (.bool (fcmp .lss (ford .f32 (cf .f32 rh) (cf .f32 0)))), (.pointer (some ⟨b2, 1, none⟩)), (.float .f32 rh), (.float .f32 r30), undef, undef, undef, undef, undef, undef, undef, undef, undef, undef, undef]) _
    refine q_is (l' := [(.agg #[(.float .f32 rl), (.float .f32 rh)]), (.pointer (some ⟨b2, 0, none⟩)), (.pointer (some ⟨b9, 0, none⟩)), (.bool (fcmp .gtr (ford .f32 (cf .f32 rl) (cf .f32 0)))), (.pointer (some ⟨b2, 0, none⟩)), (.float .f32 rl), (.bool (fcmp .gtr (ford .f32 (cf .f32 rl) (cf .f32 0)))), undef, (.bool (fcmp .lss (ford .f32 (cf .f32 rh) (cf .f32 0)))), (.pointer (some ⟨b2, 1, none⟩)), (.float .f32 rh), (.bool (fcmp .lss (ford .f32 (cf .f32 rh) (cf .f32 0)))), (.pointer (some ⟨b2, 1, none⟩)), (.float .f32 rh), (.float .f32 r30), (.pointer (some ⟨b2, 0, none⟩)), undef, undef, undef, undef, undef, undef, undef, undef, undef, undef]) rfl rfl (does_fieldAddr (ev rfl) fa41_0) rfl ?_
    refine q_is (l' := [(.agg #[(.float .f32 rl), (.float .f32 rh)]), (.pointer (some ⟨b2, 0, none⟩)), (.pointer (some ⟨b9, 0, none⟩)), (.bool (fcmp .gtr (ford .f32 (cf .f32 rl) (cf .f32 0)))), (.pointer (some ⟨b2, 0, none⟩)), (.float .f32 rl), (.bool (fcmp .gtr (ford .f32 (cf .f32 rl) (cf .f32 0)))), undef, (.bool (fcmp .lss (ford .f32 (cf .f32 rh) (cf .f32 0)))), (.pointer (some ⟨b2, 1, none⟩)), (.float .f32 rh), (.bool (fcmp .lss (ford .f32 (cf .f32 rh) (cf .f32 0)))), (.pointer (some ⟨b2, 1, none⟩)), (.float .f32 rh), (.float .f32 r30), (.pointer (some ⟨b2, 0, none⟩)), (.float .f32 rl), undef, undef, undef, undef, undef, undef, undef, undef, undef]) rfl rfl (does_load (u := (.float .f32 rl)) (ev rfl) Try.isAgg25 (Cells.at (Blk.cells (hB4.ext E12)) 0 rfl)) rfl ?_
    refine seqd rfl rfl (does_fneg' (ev rfl)) ?_; rintro _ _ ⟨r32, rfl, h33, rfl⟩
    show wpList _ _ _ _ (fr [(.agg #[(.float .f32 rl), (.float .f32 rh)]), (.pointer (some ⟨b2, 0, none⟩)), (.pointer (some ⟨b9, 0, none⟩)), (.bool (fcmp .gtr (ford .f32 (cf .f32 rl) (cf .f32 0)))), (.pointer (some ⟨b2, 0, none⟩)), (.float .f32 rl), (.bool (fcmp .gtr (ford .f32 (cf .f32 rl) (cf .f32 0)))), undef, (.bool (fcmp .lss (ford .f32 (cf .f32 rh) (cf .f32 0)))), (.pointer (some ⟨b2, 1, none⟩)), (.float .f32 rh), (.bool (fcmp .lss (ford .f32 (cf .f32 rh) (cf .f32 0)))), (.pointer (some ⟨b2, 1, none⟩)), (.float .f32 rh), (.float .f32 r30), (.pointer (some ⟨b2, 0, none⟩)), (.float .f32 rl), (.float .f32 r32), undef, undef, undef, undef, undef, undef, undef, undef]) _
    refine q_is (l' := [(.agg #[(.float .f32 rl), (.float .f32 rh)]), (.pointer (some ⟨b2, 0, none⟩)), (.pointer (some ⟨b9, 0, none⟩)), (.bool (fcmp .gtr (ford .f32 (cf .f32 rl) (cf .f32 0)))), (.pointer (some ⟨b2, 0, none⟩)), (.float .f32 rl), (.bool (fcmp .gtr (ford .f32 (cf .f32 rl) (cf .f32 0)))), undef, (.bool (fcmp .lss (ford .f32 (cf .f32 rh) (cf .f32 0)))), (.pointer (some ⟨b2, 1, none⟩)), (.float .f32 rh), (.bool (fcmp .lss (ford .f32 (cf .f32 rh) (cf .f32 0)))), (.pointer (some ⟨b2, 1, none⟩)), (.float .f32 rh), (.float .f32 r30), (.pointer (some ⟨b2, 0, none⟩)), (.float .f32 rl), (.float .f32 r32), (.agg #[(.float .f32 r30), (.float .f32 r32)]), undef, undef, undef, undef, undef, undef, undef]) rfl rfl (does_build (parts' := [(0, (.float .f32 r30)), (1, (.float .f32 r32))]) (cells := #[(.float .f32 r30), (.float .f32 r32)]) (evp rfl) (by kernel_rfl)) rfl ?_
    refine seqn rfl rfl (does_store (n := 2) (cs := [(.float .f32 0), (.float .f32 0)]) (u := (.agg #[(.float .f32 r30), (.float .f32 r32)])) (ev rfl) (ev rfl) Try.sizeOf41 rfl hB11 (Nat.le_of_ble_eq_true rfl) rfl) ?_; rintro _ w36 ⟨rfl, W34, hB35⟩
    change Blk _ _ [(.float .f32 r30), (.float .f32 r32)] at hB35
    have X37 := Below.wr X16 W34 g15
    refine wpList_nil (hK29 _ _ ?_)
    refine wp_ret ?_
    dsimp only [Exit.then, Exit.inBlock]
    refine ret_val (v := (.agg #[(.float .f32 r30), (.float .f32 r32)])) (res_C rfl (slot rfl) (run_loadAgg (cs := [(.float .f32 r30), (.float .f32 r32)]) Try.isAgg41 Try.sizeOf41 (Blk.cells hB35) rfl)) X37 ?_
    try simp only [h31, h33] at c19 c28
    have x38 : cf .f32 r30 = (szRange (cf .f32 rl) (cf .f32 rh)).1 := by first | rfl | (simp only [szRange, h31, h33, c19, c28]; done) | (simp [szRange, h31, h33, c19, c28]; done) | (revert c19 c28; simp +contextual [szRange, h31, h33]; done)
    have x39 : cf .f32 r32 = (szRange (cf .f32 rl) (cf .f32 rh)).2 := by first | rfl | (simp only [szRange, h31, h33, c19, c28]; done) | (simp [szRange, h31, h33, c19, c28]; done) | (revert c19 c28; simp +contextual [szRange, h31, h33]; done)
    exact ⟨r30, r32, rfl, x38, x39⟩
  have c28' := c28
  refine wp_skip (hK17 _ _ ?_)
  refine wp_seq_k fun K40 hK40 => ?_
  refine wp_region_lit ?_
  refine q_is (l' := [(.agg #[(.float .f32 rl), (.float .f32 rh)]), (.pointer (some ⟨b2, 0, none⟩)), (.pointer (some ⟨b9, 0, none⟩)), (.bool (fcmp .gtr (ford .f32 (cf .f32 rl) (cf .f32 0)))), (.pointer (some ⟨b2, 0, none⟩)), (.float .f32 rl), (.bool (fcmp .gtr (ford .f32 (cf .f32 rl) (cf .f32 0)))), undef, (.bool (fcmp .lss (ford .f32 (cf .f32 rh) (cf .f32 0)))), (.pointer (some ⟨b2, 1, none⟩)), (.float .f32 rh), (.bool (fcmp .lss (ford .f32 (cf .f32 rh) (cf .f32 0)))), undef, undef, undef, undef, undef, undef, undef, (.pointer (some ⟨b2, 0, none⟩)), undef, undef, undef, undef, undef, undef]) rfl rfl (does_fieldAddr (ev rfl) fa41_0) rfl ?_
  refine q_is (l' := [(.agg #[(.float .f32 rl), (.float .f32 rh)]), (.pointer (some ⟨b2, 0, none⟩)), (.pointer (some ⟨b9, 0, none⟩)), (.bool (fcmp .gtr (ford .f32 (cf .f32 rl) (cf .f32 0)))), (.pointer (some ⟨b2, 0, none⟩)), (.float .f32 rl), (.bool (fcmp .gtr (ford .f32 (cf .f32 rl) (cf .f32 0)))), undef, (.bool (fcmp .lss (ford .f32 (cf .f32 rh) (cf .f32 0)))), (.pointer (some ⟨b2, 1, none⟩)), (.float .f32 rh), (.bool (fcmp .lss (ford .f32 (cf .f32 rh) (cf .f32 0)))), undef, undef, undef, undef, undef, undef, undef, (.pointer (some ⟨b2, 0, none⟩)), (.float .f32 rl), undef, undef, undef, undef, undef]) rfl rfl (does_load (u := (.float .f32 rl)) (ev rfl) Try.isAgg25 (Cells.at (Blk.cells (hB4.ext E12)) 0 rfl)) rfl ?_
  refine seqd rfl rfl (does_fneg' (ev rfl)) ?_; rintro _ _ ⟨r41, rfl, h42, rfl⟩
  show wpList _ _ _ _ (fr [(.agg #[(.float .f32 rl), (.float .f32 rh)]), (.pointer (some ⟨b2, 0, none⟩)), (.pointer (some ⟨b9, 0, none⟩)), (.bool (fcmp .gtr (ford .f32 (cf .f32 rl) (cf .f32 0)))), (.pointer (some ⟨b2, 0, none⟩)), (.float .f32 rl), (.bool (fcmp .gtr (ford .f32 (cf .f32 rl) (cf .f32 0)))), undef, (.bool (fcmp .lss (ford .f32 (cf .f32 rh) (cf .f32 0)))), (.pointer (some ⟨b2, 1, none⟩)), (.float .f32 rh), (.bool (fcmp .lss (ford .f32 (cf .f32 rh) (cf .f32 0)))), undef, undef, undef, undef, undef, undef, undef, (.pointer (some ⟨b2, 0, none⟩)), (.float .f32 rl), (.float .f32 r41), undef, undef, undef, undef]) _
  refine q_is (l' := [(.agg #[(.float .f32 rl), (.float .f32 rh)]), (.pointer (some ⟨b2, 0, none⟩)), (.pointer (some ⟨b9, 0, none⟩)), (.bool (fcmp .gtr (ford .f32 (cf .f32 rl) (cf .f32 0)))), (.pointer (some ⟨b2, 0, none⟩)), (.float .f32 rl), (.bool (fcmp .gtr (ford .f32 (cf .f32 rl) (cf .f32 0)))), undef, (.bool (fcmp .lss (ford .f32 (cf .f32 rh) (cf .f32 0)))), (.pointer (some ⟨b2, 1, none⟩)), (.float .f32 rh), (.bool (fcmp .lss (ford .f32 (cf .f32 rh) (cf .f32 0)))), undef, undef, undef, undef, undef, undef, undef, (.pointer (some ⟨b2, 0, none⟩)), (.float .f32 rl), (.float .f32 r41), (.pointer (some ⟨b2, 1, none⟩)), undef, undef, undef]) rfl rfl (does_fieldAddr (ev rfl) fa41_1) rfl ?_
  refine q_is (l' := [(.agg #[(.float .f32 rl), (.float .f32 rh)]), (.pointer (some ⟨b2, 0, none⟩)), (.pointer (some ⟨b9, 0, none⟩)), (.bool (fcmp .gtr (ford .f32 (cf .f32 rl) (cf .f32 0)))), (.pointer (some ⟨b2, 0, none⟩)), (.float .f32 rl), (.bool (fcmp .gtr (ford .f32 (cf .f32 rl) (cf .f32 0)))), undef, (.bool (fcmp .lss (ford .f32 (cf .f32 rh) (cf .f32 0)))), (.pointer (some ⟨b2, 1, none⟩)), (.float .f32 rh), (.bool (fcmp .lss (ford .f32 (cf .f32 rh) (cf .f32 0)))), undef, undef, undef, undef, undef, undef, undef, (.pointer (some ⟨b2, 0, none⟩)), (.float .f32 rl), (.float .f32 r41), (.pointer (some ⟨b2, 1, none⟩)), (.float .f32 rh), undef, undef]) rfl rfl (does_load (u := (.float .f32 rh)) (ev rfl) Try.isAgg25 (Cells.at (Blk.cells (hB4.ext E12)) 1 rfl)) rfl ?_
  refine seqd rfl rfl (does_call (args := #[(.float .f32 r41), (.float .f32 rh)]) cal55 (evs rfl) (c_impl_greater r41 rh _)) ?_; rintro _ w44 ⟨E43, ⟨r45, rfl, h46⟩⟩
  have X47 := Ext.gr X16 E43
  show wpList _ _ _ _ (fr [(.agg #[(.float .f32 rl), (.float .f32 rh)]), (.pointer (some ⟨b2, 0, none⟩)), (.pointer (some ⟨b9, 0, none⟩)), (.bool (fcmp .gtr (ford .f32 (cf .f32 rl) (cf .f32 0)))), (.pointer (some ⟨b2, 0, none⟩)), (.float .f32 rl), (.bool (fcmp .gtr (ford .f32 (cf .f32 rl) (cf .f32 0)))), undef, (.bool (fcmp .lss (ford .f32 (cf .f32 rh) (cf .f32 0)))), (.pointer (some ⟨b2, 1, none⟩)), (.float .f32 rh), (.bool (fcmp .lss (ford .f32 (cf .f32 rh) (cf .f32 0)))), undef, undef, undef, undef, undef, undef, undef, (.pointer (some ⟨b2, 0, none⟩)), (.float .f32 rl), (.float .f32 r41), (.pointer (some ⟨b2, 1, none⟩)), (.float .f32 rh), (.float .f32 r45), undef]) _
  refine q_is (l' := [(.agg #[(.float .f32 rl), (.float .f32 rh)]), (.pointer (some ⟨b2, 0, none⟩)), (.pointer (some ⟨b9, 0, none⟩)), (.bool (fcmp .gtr (ford .f32 (cf .f32 rl) (cf .f32 0)))), (.pointer (some ⟨b2, 0, none⟩)), (.float .f32 rl), (.bool (fcmp .gtr (ford .f32 (cf .f32 rl) (cf .f32 0)))), undef, (.bool (fcmp .lss (ford .f32 (cf .f32 rh) (cf .f32 0)))), (.pointer (some ⟨b2, 1, none⟩)), (.float .f32 rh), (.bool (fcmp .lss (ford .f32 (cf .f32 rh) (cf .f32 0)))), undef, undef, undef, undef, undef, undef, undef, (.pointer (some ⟨b2, 0, none⟩)), (.float .f32 rl), (.float .f32 r41), (.pointer (some ⟨b2, 1, none⟩)), (.float .f32 rh), (.float .f32 r45), (.agg #[(.float .f32 0), (.float .f32 r45)])]) rfl rfl (does_build (parts' := [(0, (.float .f32 0)), (1, (.float .f32 r45))]) (cells := #[(.float .f32 0), (.float .f32 r45)]) (evp rfl) (by kernel_rfl)) rfl ?_
  refine seqn rfl rfl (does_store (n := 2) (cs := [(.float .f32 0), (.float .f32 0)]) (u := (.agg #[(.float .f32 0), (.float .f32 r45)])) (ev rfl) (ev rfl) Try.sizeOf41 rfl (hB11.ext E43) (Nat.le_of_ble_eq_true rfl) rfl) ?_; rintro _ w50 ⟨rfl, W48, hB49⟩
  change Blk _ _ [(.float .f32 0), (.float .f32 r45)] at hB49
  have X51 := Below.wr X47 W48 g15
  refine wpList_nil (hK40 _ _ ?_)
  refine wp_ret ?_
  refine ret_val (v := (.agg #[(.float .f32 0), (.float .f32 r45)])) (res_C rfl (slot rfl) (run_loadAgg (cs := [(.float .f32 0), (.float .f32 r45)]) Try.isAgg41 Try.sizeOf41 (Blk.cells hB49) rfl)) X51 ?_
  try simp only [h42, h46] at c19 c28
  have x52 : cf .f32 0 = (szRange (cf .f32 rl) (cf .f32 rh)).1 := by first | rfl | (simp only [szRange, h42, h46, c19, c28]; done) | (simp [szRange, h42, h46, c19, c28]; done) | (revert c19 c28; simp +contextual [szRange, h42, h46]; done)
  have x53 : cf .f32 r45 = (szRange (cf .f32 rl) (cf .f32 rh)).2 := by first | rfl | (simp only [szRange, h42, h46, c19, c28]; done) | (simp [szRange, h42, h46, c19, c28]; done) | (revert c19 c28; simp +contextual [szRange, h42, h46]; done)
  exact ⟨0, r45, rfl, x52, x53⟩

/- laws.sameFloat -/
theorem c_laws_sameFloat (x : Nat) (y : Nat) (w : World) : Gives Try.prog 56 #[(.float .f64 x), (.float .f64 y)] w (fun v w' => v = (.bool (sameF (cf .f64 x) (cf .f64 y)))) := by
  refine enter [(.float .f64 x), (.float .f64 y), undef, undef, undef, undef, undef, undef, undef, undef, undef, undef, undef, undef, undef, undef, undef, undef, undef, undef, undef, undef, undef, undef, undef, undef, undef, undef, undef, undef, undef, undef, undef, undef, undef, undef, undef] Try.func56 rfl Try.ntmps56 rfl ?_
  refine wp_seq_k fun K1 hK1 => ?_
  refine wp_region_lit ?_
  refine q_is (l' := [(.float .f64 x), (.float .f64 y), undef, undef, (.bool false), undef, undef, undef, undef, undef, undef, undef, undef, undef, undef, undef, undef, undef, undef, undef, undef, undef, undef, undef, undef, undef, undef, undef, undef, undef, undef, undef, undef, undef, undef, undef, undef]) rfl rfl (does_assign (u := (.bool false)) (ev rfl)) rfl ?_
  refine wpList_nil (hK1 _ _ ?_)
  refine wp_seq_k fun K2 hK2 => ?_
  refine wp_seq_k fun K3 hK3 => ?_
  refine region_text (
    [Fact.pure [] (fun v => v = (.float .f64 x)),
    Fact.pure [] (fun v => v = (.float .f64 x)),
    Fact.pure [5, 6] (fun v => v = (.bool (fcmp .neq (ford .f64 (cf .f64 x) (cf .f64 x))))),
    Fact.pure [7] (fun v => v = (.bool (fcmp .neq (ford .f64 (cf .f64 x) (cf .f64 x))))),
    Fact.pure [8] (fun v => (fcmp .neq (ford .f64 (cf .f64 x) (cf .f64 x))) = false → v = (.float .f64 y)),
    Fact.pure [8] (fun v => (fcmp .neq (ford .f64 (cf .f64 x) (cf .f64 x))) = false → v = (.float .f64 y)),
    Fact.pure [9, 10, 8] (fun v => (fcmp .neq (ford .f64 (cf .f64 x) (cf .f64 x))) = false → v = (.bool (fcmp .neq (ford .f64 (cf .f64 y) (cf .f64 y))))),
    Fact.pure [8, 11] (fun v => v = (.bool ((fcmp .neq (ford .f64 (cf .f64 x) (cf .f64 x))) || (fcmp .neq (ford .f64 (cf .f64 y) (cf .f64 y))))))]) (by simp [Fact.pure, Fact.mem]) ?_
  refine RW_d (fun v4 => [(.float .f64 x), (.float .f64 y), undef, undef, (.bool false), v4, undef, undef, undef, undef, undef, undef, undef, undef, undef, undef, undef, undef, undef, undef, undef, undef, undef, undef, undef, undef, undef, undef, undef, undef, undef, undef, undef, undef, undef, undef, undef]) rfl (fun _ => rfl) (fun u hu hF => ?_) (fun v4 => ?_)
  · clear hF
    refine doesG_un rfl ?_
    refine (does_move (u := (.float .f64 x)) (ev rfl)).mono ?_; rintro _ _ ⟨rfl, rfl⟩
    exact ⟨rfl, Ext.refl _⟩
  refine RW_d (fun v5 => [(.float .f64 x), (.float .f64 y), undef, undef, (.bool false), v4, v5, undef, undef, undef, undef, undef, undef, undef, undef, undef, undef, undef, undef, undef, undef, undef, undef, undef, undef, undef, undef, undef, undef, undef, undef, undef, undef, undef, undef, undef, undef]) rfl (fun _ => rfl) (fun u hu hF => ?_) (fun v5 => ?_)
  · clear hF
    refine doesG_un rfl ?_
    refine (does_move (u := (.float .f64 x)) (ev rfl)).mono ?_; rintro _ _ ⟨rfl, rfl⟩
    exact ⟨rfl, Ext.refl _⟩
  refine RW_d (fun v6 => [(.float .f64 x), (.float .f64 y), undef, undef, (.bool false), v4, v5, v6, undef, undef, undef, undef, undef, undef, undef, undef, undef, undef, undef, undef, undef, undef, undef, undef, undef, undef, undef, undef, undef, undef, undef, undef, undef, undef, undef, undef, undef]) rfl (fun _ => rfl) (fun u hu hF => ?_) (fun v6 => ?_)
  · have h5_ : v4 = (.float .f64 x) := hF.1
    have h6_ : v5 = (.float .f64 x) := hF.2.1
    clear hF
    obtain rfl := h5_
    obtain rfl := h6_
    refine doesG_un rfl ?_
    refine (does_fcmp (.inr (.inl rfl)) (ev rfl) (ev rfl)).mono ?_; rintro _ _ ⟨rfl, rfl⟩
    exact ⟨rfl, Ext.refl _⟩
  refine RW_d (fun v7 => [(.float .f64 x), (.float .f64 y), undef, undef, (.bool false), v4, v5, v6, v7, undef, undef, undef, undef, undef, undef, undef, undef, undef, undef, undef, undef, undef, undef, undef, undef, undef, undef, undef, undef, undef, undef, undef, undef, undef, undef, undef, undef]) rfl (fun _ => rfl) (fun u hu hF => ?_) (fun v7 => ?_)
  · have h7_ : v6 = (.bool (fcmp .neq (ford .f64 (cf .f64 x) (cf .f64 x)))) := hF.1
    clear hF
    obtain rfl := h7_
    refine doesG_un rfl ?_
    refine (does_move (u := (.bool (fcmp .neq (ford .f64 (cf .f64 x) (cf .f64 x))))) (ev rfl)).mono ?_; rintro _ _ ⟨rfl, rfl⟩
    exact ⟨rfl, Ext.refl _⟩
  refine RW_d (fun v8 => [(.float .f64 x), (.float .f64 y), undef, undef, (.bool false), v4, v5, v6, v7, v8, undef, undef, undef, undef, undef, undef, undef, undef, undef, undef, undef, undef, undef, undef, undef, undef, undef, undef, undef, undef, undef, undef, undef, undef, undef, undef, undef]) rfl (fun _ => rfl) (fun u hu hF => ?_) (fun v8 => ?_)
  · have h8_ : v7 = (.bool (fcmp .neq (ford .f64 (cf .f64 x) (cf .f64 x)))) := hF.1
    clear hF
    obtain rfl := h8_
    refine doesG_g (b := (fcmp .neq (ford .f64 (cf .f64 x) (cf .f64 x)))) rfl (yld rfl rfl) (fun hg => ?_) (fun hg => ⟨fun h => absurd h hg, Ext.refl _⟩)
    refine (does_move (u := (.float .f64 y)) (ev rfl)).mono ?_; rintro _ _ ⟨rfl, rfl⟩
    exact ⟨fun _ => rfl, Ext.refl _⟩
  refine RW_d (fun v9 => [(.float .f64 x), (.float .f64 y), undef, undef, (.bool false), v4, v5, v6, v7, v8, v9, undef, undef, undef, undef, undef, undef, undef, undef, undef, undef, undef, undef, undef, undef, undef, undef, undef, undef, undef, undef, undef, undef, undef, undef, undef, undef]) rfl (fun _ => rfl) (fun u hu hF => ?_) (fun v9 => ?_)
  · have h8_ : v7 = (.bool (fcmp .neq (ford .f64 (cf .f64 x) (cf .f64 x)))) := hF.1
    clear hF
    obtain rfl := h8_
    refine doesG_g (b := (fcmp .neq (ford .f64 (cf .f64 x) (cf .f64 x)))) rfl (yld rfl rfl) (fun hg => ?_) (fun hg => ⟨fun h => absurd h hg, Ext.refl _⟩)
    refine (does_move (u := (.float .f64 y)) (ev rfl)).mono ?_; rintro _ _ ⟨rfl, rfl⟩
    exact ⟨fun _ => rfl, Ext.refl _⟩
  refine RW_d (fun v10 => [(.float .f64 x), (.float .f64 y), undef, undef, (.bool false), v4, v5, v6, v7, v8, v9, v10, undef, undef, undef, undef, undef, undef, undef, undef, undef, undef, undef, undef, undef, undef, undef, undef, undef, undef, undef, undef, undef, undef, undef, undef, undef]) rfl (fun _ => rfl) (fun u hu hF => ?_) (fun v10 => ?_)
  · have h9_ : (fcmp .neq (ford .f64 (cf .f64 x) (cf .f64 x))) = false → v8 = (.float .f64 y) := hF.1
    have h10_ : (fcmp .neq (ford .f64 (cf .f64 x) (cf .f64 x))) = false → v9 = (.float .f64 y) := hF.2.1
    have h8_ : v7 = (.bool (fcmp .neq (ford .f64 (cf .f64 x) (cf .f64 x)))) := hF.2.2.1
    clear hF
    obtain rfl := h8_
    refine doesG_g (b := (fcmp .neq (ford .f64 (cf .f64 x) (cf .f64 x)))) rfl (yld rfl rfl) (fun hg => ?_) (fun hg => ⟨fun h => absurd h hg, Ext.refl _⟩)
    obtain rfl := h9_ hg
    obtain rfl := h10_ hg
    refine (does_fcmp (.inr (.inl rfl)) (ev rfl) (ev rfl)).mono ?_; rintro _ _ ⟨rfl, rfl⟩
    exact ⟨fun _ => rfl, Ext.refl _⟩
  refine RW_d (fun v11 => [(.float .f64 x), (.float .f64 y), undef, undef, (.bool false), v4, v5, v6, v7, v8, v9, v10, v11, undef, undef, undef, undef, undef, undef, undef, undef, undef, undef, undef, undef, undef, undef, undef, undef, undef, undef, undef, undef, undef, undef, undef, undef]) rfl (fun _ => rfl) (fun u hu hF => ?_) (fun v11 => ?_)
  · have h8_ : v7 = (.bool (fcmp .neq (ford .f64 (cf .f64 x) (cf .f64 x)))) := hF.1
    have h11_ : (fcmp .neq (ford .f64 (cf .f64 x) (cf .f64 x))) = false → v10 = (.bool (fcmp .neq (ford .f64 (cf .f64 y) (cf .f64 y)))) := hF.2.1
    clear hF
    obtain rfl := h8_
    refine doesG_un rfl ((does_pick (b := (fcmp .neq (ford .f64 (cf .f64 x) (cf .f64 x)))) (ev rfl) (ev rfl) (ev rfl)).mono ?_); rintro _ _ ⟨rfl, rfl⟩; refine ⟨?_, Ext.refl _⟩
    cases hbb : (fcmp .neq (ford .f64 (cf .f64 x) (cf .f64 x))) <;> simp [hbb] at h11_ ⊢
    all_goals (first | rfl | (subst h11_; rfl) | simp_all)
  refine RW_fin ?_; intro w12 E13 hP14
  obtain ⟨⟨⟨⟨⟨⟨⟨⟨-, -⟩, -⟩, -⟩, -⟩, -⟩, -⟩, -⟩, q15⟩ := hP14
  have X16 := Ext.gr (Ext.refl w) E13
  have q15 : v11 = (.bool ((fcmp .neq (ford .f64 (cf .f64 x) (cf .f64 x))) || (fcmp .neq (ford .f64 (cf .f64 y) (cf .f64 y))))) := q15
  obtain rfl := q15
  show wpList _ _ _ _ (fr [(.float .f64 x), (.float .f64 y), undef, undef, (.bool false), v4, v5, v6, v7, v8, v9, v10, (.bool ((fcmp .neq (ford .f64 (cf .f64 x) (cf .f64 x))) || (fcmp .neq (ford .f64 (cf .f64 y) (cf .f64 y))))), undef, undef, undef, undef, undef, undef, undef, undef, undef, undef, undef, undef, undef, undef, undef, undef, undef, undef, undef, undef, undef, undef, undef, undef]) _
  refine wpList_nil (hK3 _ _ ?_)
  refine wp_cond_split (t := (fcmp .neq (ford .f64 (cf .f64 x) (cf .f64 x))) || (fcmp .neq (ford .f64 (cf .f64 y) (cf .f64 y)))) (ev rfl) (fun c17 => ?_) (fun c17 => ?_)
  · have c17' := c17
    refine wp_seq_k fun K18 hK18 => ?_
    refine region_text (
      [Fact.pure [] (fun v => v = (.float .f64 x)),
    Fact.pure [] (fun v => v = (.float .f64 x)),
    Fact.pure [13, 14] (fun v => v = (.bool (fcmp .neq (ford .f64 (cf .f64 x) (cf .f64 x))))),
    Fact.pure [15] (fun v => v = (.bool (fcmp .neq (ford .f64 (cf .f64 x) (cf .f64 x))))),
    Fact.pure [16] (fun v => (fcmp .neq (ford .f64 (cf .f64 x) (cf .f64 x))) = true → v = (.float .f64 y)),
    Fact.pure [16] (fun v => (fcmp .neq (ford .f64 (cf .f64 x) (cf .f64 x))) = true → v = (.float .f64 y)),
    Fact.pure [17, 18, 16] (fun v => (fcmp .neq (ford .f64 (cf .f64 x) (cf .f64 x))) = true → v = (.bool (fcmp .neq (ford .f64 (cf .f64 y) (cf .f64 y))))),
    Fact.pure [16, 19] (fun v => v = (.bool ((fcmp .neq (ford .f64 (cf .f64 x) (cf .f64 x))) && (fcmp .neq (ford .f64 (cf .f64 y) (cf .f64 y))))))]) (by simp [Fact.pure, Fact.mem]) ?_
    refine RW_d (fun v19 => [(.float .f64 x), (.float .f64 y), undef, undef, (.bool false), v4, v5, v6, v7, v8, v9, v10, (.bool ((fcmp .neq (ford .f64 (cf .f64 x) (cf .f64 x))) || (fcmp .neq (ford .f64 (cf .f64 y) (cf .f64 y))))), v19, undef, undef, undef, undef, undef, undef, undef, undef, undef, undef, undef, undef, undef, undef, undef, undef, undef, undef, undef, undef, undef, undef, undef]) rfl (fun _ => rfl) (fun u hu hF => ?_) (fun v19 => ?_)
    · clear hF
      refine doesG_un rfl ?_
      refine (does_move (u := (.float .f64 x)) (ev rfl)).mono ?_; rintro _ _ ⟨rfl, rfl⟩
      exact ⟨rfl, Ext.refl _⟩
    refine RW_d (fun v20 => [(.float .f64 x), (.float .f64 y), undef, undef, (.bool false), v4, v5, v6, v7, v8, v9, v10, (.bool ((fcmp .neq (ford .f64 (cf .f64 x) (cf .f64 x))) || (fcmp .neq (ford .f64 (cf .f64 y) (cf .f64 y))))), v19, v20, undef, undef, undef, undef, undef, undef, undef, undef, undef, undef, undef, undef, undef, undef, undef, undef, undef, undef, undef, undef, undef, undef]) rfl (fun _ => rfl) (fun u hu hF => ?_) (fun v20 => ?_)
    · clear hF
      refine doesG_un rfl ?_
      refine (does_move (u := (.float .f64 x)) (ev rfl)).mono ?_; rintro _ _ ⟨rfl, rfl⟩
      exact ⟨rfl, Ext.refl _⟩
    refine RW_d (fun v21 => [(.float .f64 x), (.float .f64 y), undef, undef, (.bool false), v4, v5, v6, v7, v8, v9, v10, (.bool ((fcmp .neq (ford .f64 (cf .f64 x) (cf .f64 x))) || (fcmp .neq (ford .f64 (cf .f64 y) (cf .f64 y))))), v19, v20, v21, undef, undef, undef, undef, undef, undef, undef, undef, undef, undef, undef, undef, undef, undef, undef, undef, undef, undef, undef, undef, undef]) rfl (fun _ => rfl) (fun u hu hF => ?_) (fun v21 => ?_)
    · have h13_ : v19 = (.float .f64 x) := hF.1
      have h14_ : v20 = (.float .f64 x) := hF.2.1
      clear hF
      obtain rfl := h13_
      obtain rfl := h14_
      refine doesG_un rfl ?_
      refine (does_fcmp (.inr (.inl rfl)) (ev rfl) (ev rfl)).mono ?_; rintro _ _ ⟨rfl, rfl⟩
      exact ⟨rfl, Ext.refl _⟩
    refine RW_d (fun v22 => [(.float .f64 x), (.float .f64 y), undef, undef, (.bool false), v4, v5, v6, v7, v8, v9, v10, (.bool ((fcmp .neq (ford .f64 (cf .f64 x) (cf .f64 x))) || (fcmp .neq (ford .f64 (cf .f64 y) (cf .f64 y))))), v19, v20, v21, v22, undef, undef, undef, undef, undef, undef, undef, undef, undef, undef, undef, undef, undef, undef, undef, undef, undef, undef, undef, undef]) rfl (fun _ => rfl) (fun u hu hF => ?_) (fun v22 => ?_)
    · have h15_ : v21 = (.bool (fcmp .neq (ford .f64 (cf .f64 x) (cf .f64 x)))) := hF.1
      clear hF
      obtain rfl := h15_
      refine doesG_un rfl ?_
      refine (does_move (u := (.bool (fcmp .neq (ford .f64 (cf .f64 x) (cf .f64 x))))) (ev rfl)).mono ?_; rintro _ _ ⟨rfl, rfl⟩
      exact ⟨rfl, Ext.refl _⟩
    refine RW_d (fun v23 => [(.float .f64 x), (.float .f64 y), undef, undef, (.bool false), v4, v5, v6, v7, v8, v9, v10, (.bool ((fcmp .neq (ford .f64 (cf .f64 x) (cf .f64 x))) || (fcmp .neq (ford .f64 (cf .f64 y) (cf .f64 y))))), v19, v20, v21, v22, v23, undef, undef, undef, undef, undef, undef, undef, undef, undef, undef, undef, undef, undef, undef, undef, undef, undef, undef, undef]) rfl (fun _ => rfl) (fun u hu hF => ?_) (fun v23 => ?_)
    · have h16_ : v22 = (.bool (fcmp .neq (ford .f64 (cf .f64 x) (cf .f64 x)))) := hF.1
      clear hF
      obtain rfl := h16_
      refine doesG_g (b := (fcmp .neq (ford .f64 (cf .f64 x) (cf .f64 x)))) rfl (yld rfl rfl) (fun hg => ?_) (fun hg => ⟨fun h => absurd h hg, Ext.refl _⟩)
      refine (does_move (u := (.float .f64 y)) (ev rfl)).mono ?_; rintro _ _ ⟨rfl, rfl⟩
      exact ⟨fun _ => rfl, Ext.refl _⟩
    refine RW_d (fun v24 => [(.float .f64 x), (.float .f64 y), undef, undef, (.bool false), v4, v5, v6, v7, v8, v9, v10, (.bool ((fcmp .neq (ford .f64 (cf .f64 x) (cf .f64 x))) || (fcmp .neq (ford .f64 (cf .f64 y) (cf .f64 y))))), v19, v20, v21, v22, v23, v24, undef, undef, undef, undef, undef, undef, undef, undef, undef, undef, undef, undef, undef, undef, undef, undef, undef, undef]) rfl (fun _ => rfl) (fun u hu hF => ?_) (fun v24 => ?_)
    · have h16_ : v22 = (.bool (fcmp .neq (ford .f64 (cf .f64 x) (cf .f64 x)))) := hF.1
      clear hF
      obtain rfl := h16_
      refine doesG_g (b := (fcmp .neq (ford .f64 (cf .f64 x) (cf .f64 x)))) rfl (yld rfl rfl) (fun hg => ?_) (fun hg => ⟨fun h => absurd h hg, Ext.refl _⟩)
      refine (does_move (u := (.float .f64 y)) (ev rfl)).mono ?_; rintro _ _ ⟨rfl, rfl⟩
      exact ⟨fun _ => rfl, Ext.refl _⟩
    refine RW_d (fun v25 => [(.float .f64 x), (.float .f64 y), undef, undef, (.bool false), v4, v5, v6, v7, v8, v9, v10, (.bool ((fcmp .neq (ford .f64 (cf .f64 x) (cf .f64 x))) || (fcmp .neq (ford .f64 (cf .f64 y) (cf .f64 y))))), v19, v20, v21, v22, v23, v24, v25, undef, undef, undef, undef, undef, undef, undef, undef, undef, undef, undef, undef, undef, undef, undef, undef, undef]) rfl (fun _ => rfl) (fun u hu hF => ?_) (fun v25 => ?_)
    · have h17_ : (fcmp .neq (ford .f64 (cf .f64 x) (cf .f64 x))) = true → v23 = (.float .f64 y) := hF.1
      have h18_ : (fcmp .neq (ford .f64 (cf .f64 x) (cf .f64 x))) = true → v24 = (.float .f64 y) := hF.2.1
      have h16_ : v22 = (.bool (fcmp .neq (ford .f64 (cf .f64 x) (cf .f64 x)))) := hF.2.2.1
      clear hF
      obtain rfl := h16_
      refine doesG_g (b := (fcmp .neq (ford .f64 (cf .f64 x) (cf .f64 x)))) rfl (yld rfl rfl) (fun hg => ?_) (fun hg => ⟨fun h => absurd h hg, Ext.refl _⟩)
      obtain rfl := h17_ hg
      obtain rfl := h18_ hg
      refine (does_fcmp (.inr (.inl rfl)) (ev rfl) (ev rfl)).mono ?_; rintro _ _ ⟨rfl, rfl⟩
      exact ⟨fun _ => rfl, Ext.refl _⟩
    refine RW_d (fun v26 => [(.float .f64 x), (.float .f64 y), undef, undef, (.bool false), v4, v5, v6, v7, v8, v9, v10, (.bool ((fcmp .neq (ford .f64 (cf .f64 x) (cf .f64 x))) || (fcmp .neq (ford .f64 (cf .f64 y) (cf .f64 y))))), v19, v20, v21, v22, v23, v24, v25, v26, undef, undef, undef, undef, undef, undef, undef, undef, undef, undef, undef, undef, undef, undef, undef, undef]) rfl (fun _ => rfl) (fun u hu hF => ?_) (fun v26 => ?_)
    · have h16_ : v22 = (.bool (fcmp .neq (ford .f64 (cf .f64 x) (cf .f64 x)))) := hF.1
      have h19_ : (fcmp .neq (ford .f64 (cf .f64 x) (cf .f64 x))) = true → v25 = (.bool (fcmp .neq (ford .f64 (cf .f64 y) (cf .f64 y)))) := hF.2.1
      clear hF
      obtain rfl := h16_
      refine doesG_un rfl ((does_pick (b := (fcmp .neq (ford .f64 (cf .f64 x) (cf .f64 x)))) (ev rfl) (ev rfl) (ev rfl)).mono ?_); rintro _ _ ⟨rfl, rfl⟩; refine ⟨?_, Ext.refl _⟩
      cases hbb : (fcmp .neq (ford .f64 (cf .f64 x) (cf .f64 x))) <;> simp [hbb] at h19_ ⊢
      all_goals (first | rfl | (subst h19_; rfl) | simp_all)
    refine RW_fin ?_; intro w27 E28 hP29
    obtain ⟨⟨⟨⟨⟨⟨⟨⟨-, -⟩, -⟩, -⟩, -⟩, -⟩, -⟩, -⟩, q30⟩ := hP29
    have X31 := Ext.gr X16 E28
    have q30 : v26 = (.bool ((fcmp .neq (ford .f64 (cf .f64 x) (cf .f64 x))) && (fcmp .neq (ford .f64 (cf .f64 y) (cf .f64 y))))) := q30
    obtain rfl := q30
    show wpList _ _ _ _ (fr [(.float .f64 x), (.float .f64 y), undef, undef, (.bool false), v4, v5, v6, v7, v8, v9, v10, (.bool ((fcmp .neq (ford .f64 (cf .f64 x) (cf .f64 x))) || (fcmp .neq (ford .f64 (cf .f64 y) (cf .f64 y))))), v19, v20, v21, v22, v23, v24, v25, (.bool ((fcmp .neq (ford .f64 (cf .f64 x) (cf .f64 x))) && (fcmp .neq (ford .f64 (cf .f64 y) (cf .f64 y))))), undef, undef, undef, undef, undef, undef, undef, undef, undef, undef, undef, undef, undef, undef, undef, undef]) _
    refine q_is (l' := [(.float .f64 x), (.float .f64 y), undef, undef, (.bool ((fcmp .neq (ford .f64 (cf .f64 x) (cf .f64 x))) && (fcmp .neq (ford .f64 (cf .f64 y) (cf .f64 y))))), v4, v5, v6, v7, v8, v9, v10, (.bool ((fcmp .neq (ford .f64 (cf .f64 x) (cf .f64 x))) || (fcmp .neq (ford .f64 (cf .f64 y) (cf .f64 y))))), v19, v20, v21, v22, v23, v24, v25, (.bool ((fcmp .neq (ford .f64 (cf .f64 x) (cf .f64 x))) && (fcmp .neq (ford .f64 (cf .f64 y) (cf .f64 y))))), undef, undef, undef, undef, undef, undef, undef, undef, undef, undef, undef, undef, undef, undef, undef, undef]) rfl rfl (does_assign (u := (.bool ((fcmp .neq (ford .f64 (cf .f64 x) (cf .f64 x))) && (fcmp .neq (ford .f64 (cf .f64 y) (cf .f64 y)))))) (ev rfl)) rfl ?_
    refine wpList_nil (hK18 _ _ ?_)
    refine wp_ret ?_
    dsimp only [Exit.then, Exit.inBlock]
    refine ret_val (v := (.bool ((fcmp .neq (ford .f64 (cf .f64 x) (cf .f64 x))) && (fcmp .neq (ford .f64 (cf .f64 y) (cf .f64 y)))))) (res_T rfl (slot rfl)) X31 ?_
    have x32 : (sameF (cf .f64 x) (cf .f64 y)) = ((fcmp .neq (ford .f64 (cf .f64 x) (cf .f64 x))) && (fcmp .neq (ford .f64 (cf .f64 y) (cf .f64 y)))) := by first | rfl | (simp only [sameF, c17]; done) | (simp [sameF, c17]; done) | (revert c17; simp +contextual [sameF]; done)
    exact (by first | rfl | rw [x32])
  have c17' := c17
  refine wp_skip (hK2 _ _ ?_)
  refine wp_seq_k fun K33 hK33 => ?_
  refine wp_seq_k fun K34 hK34 => ?_
  refine region_text (
    [Fact.pure [] (fun v => v = (.float .f64 x)),
    Fact.pure [21] (fun v => v = (.bool (fcmp .eql (ford .f64 (cf .f64 x) (cf .f64 0))))),
    Fact.pure [22] (fun v => v = (.bool (fcmp .eql (ford .f64 (cf .f64 x) (cf .f64 0))))),
    Fact.pure [23] (fun v => (fcmp .eql (ford .f64 (cf .f64 x) (cf .f64 0))) = true → v = (.float .f64 y)),
    Fact.pure [24, 23] (fun v => (fcmp .eql (ford .f64 (cf .f64 x) (cf .f64 0))) = true → v = (.bool (fcmp .eql (ford .f64 (cf .f64 y) (cf .f64 0))))),
    Fact.pure [23, 25] (fun v => v = (.bool ((fcmp .eql (ford .f64 (cf .f64 x) (cf .f64 0))) && (fcmp .eql (ford .f64 (cf .f64 y) (cf .f64 0))))))]) (by simp [Fact.pure, Fact.mem]) ?_
  refine RW_d (fun v35 => [(.float .f64 x), (.float .f64 y), undef, undef, (.bool false), v4, v5, v6, v7, v8, v9, v10, (.bool ((fcmp .neq (ford .f64 (cf .f64 x) (cf .f64 x))) || (fcmp .neq (ford .f64 (cf .f64 y) (cf .f64 y))))), undef, undef, undef, undef, undef, undef, undef, undef, v35, undef, undef, undef, undef, undef, undef, undef, undef, undef, undef, undef, undef, undef, undef, undef]) rfl (fun _ => rfl) (fun u hu hF => ?_) (fun v35 => ?_)
  · clear hF
    refine doesG_un rfl ?_
    refine (does_move (u := (.float .f64 x)) (ev rfl)).mono ?_; rintro _ _ ⟨rfl, rfl⟩
    exact ⟨rfl, Ext.refl _⟩
  refine RW_d (fun v36 => [(.float .f64 x), (.float .f64 y), undef, undef, (.bool false), v4, v5, v6, v7, v8, v9, v10, (.bool ((fcmp .neq (ford .f64 (cf .f64 x) (cf .f64 x))) || (fcmp .neq (ford .f64 (cf .f64 y) (cf .f64 y))))), undef, undef, undef, undef, undef, undef, undef, undef, v35, v36, undef, undef, undef, undef, undef, undef, undef, undef, undef, undef, undef, undef, undef, undef]) rfl (fun _ => rfl) (fun u hu hF => ?_) (fun v36 => ?_)
  · have h21_ : v35 = (.float .f64 x) := hF.1
    clear hF
    obtain rfl := h21_
    refine doesG_un rfl ?_
    refine (does_fcmp (.inl rfl) (ev rfl) (ev rfl)).mono ?_; rintro _ _ ⟨rfl, rfl⟩
    exact ⟨rfl, Ext.refl _⟩
  refine RW_d (fun v37 => [(.float .f64 x), (.float .f64 y), undef, undef, (.bool false), v4, v5, v6, v7, v8, v9, v10, (.bool ((fcmp .neq (ford .f64 (cf .f64 x) (cf .f64 x))) || (fcmp .neq (ford .f64 (cf .f64 y) (cf .f64 y))))), undef, undef, undef, undef, undef, undef, undef, undef, v35, v36, v37, undef, undef, undef, undef, undef, undef, undef, undef, undef, undef, undef, undef, undef]) rfl (fun _ => rfl) (fun u hu hF => ?_) (fun v37 => ?_)
  · have h22_ : v36 = (.bool (fcmp .eql (ford .f64 (cf .f64 x) (cf .f64 0)))) := hF.1
    clear hF
    obtain rfl := h22_
    refine doesG_un rfl ?_
    refine (does_move (u := (.bool (fcmp .eql (ford .f64 (cf .f64 x) (cf .f64 0))))) (ev rfl)).mono ?_; rintro _ _ ⟨rfl, rfl⟩
    exact ⟨rfl, Ext.refl _⟩
  refine RW_d (fun v38 => [(.float .f64 x), (.float .f64 y), undef, undef, (.bool false), v4, v5, v6, v7, v8, v9, v10, (.bool ((fcmp .neq (ford .f64 (cf .f64 x) (cf .f64 x))) || (fcmp .neq (ford .f64 (cf .f64 y) (cf .f64 y))))), undef, undef, undef, undef, undef, undef, undef, undef, v35, v36, v37, v38, undef, undef, undef, undef, undef, undef, undef, undef, undef, undef, undef, undef]) rfl (fun _ => rfl) (fun u hu hF => ?_) (fun v38 => ?_)
  · have h23_ : v37 = (.bool (fcmp .eql (ford .f64 (cf .f64 x) (cf .f64 0)))) := hF.1
    clear hF
    obtain rfl := h23_
    refine doesG_g (b := (fcmp .eql (ford .f64 (cf .f64 x) (cf .f64 0)))) rfl (yld rfl rfl) (fun hg => ?_) (fun hg => ⟨fun h => absurd h hg, Ext.refl _⟩)
    refine (does_move (u := (.float .f64 y)) (ev rfl)).mono ?_; rintro _ _ ⟨rfl, rfl⟩
    exact ⟨fun _ => rfl, Ext.refl _⟩
  refine RW_d (fun v39 => [(.float .f64 x), (.float .f64 y), undef, undef, (.bool false), v4, v5, v6, v7, v8, v9, v10, (.bool ((fcmp .neq (ford .f64 (cf .f64 x) (cf .f64 x))) || (fcmp .neq (ford .f64 (cf .f64 y) (cf .f64 y))))), undef, undef, undef, undef, undef, undef, undef, undef, v35, v36, v37, v38, v39, undef, undef, undef, undef, undef, undef, undef, undef, undef, undef, undef]) rfl (fun _ => rfl) (fun u hu hF => ?_) (fun v39 => ?_)
  · have h24_ : (fcmp .eql (ford .f64 (cf .f64 x) (cf .f64 0))) = true → v38 = (.float .f64 y) := hF.1
    have h23_ : v37 = (.bool (fcmp .eql (ford .f64 (cf .f64 x) (cf .f64 0)))) := hF.2.1
    clear hF
    obtain rfl := h23_
    refine doesG_g (b := (fcmp .eql (ford .f64 (cf .f64 x) (cf .f64 0)))) rfl (yld rfl rfl) (fun hg => ?_) (fun hg => ⟨fun h => absurd h hg, Ext.refl _⟩)
    obtain rfl := h24_ hg
    refine (does_fcmp (.inl rfl) (ev rfl) (ev rfl)).mono ?_; rintro _ _ ⟨rfl, rfl⟩
    exact ⟨fun _ => rfl, Ext.refl _⟩
  refine RW_d (fun v40 => [(.float .f64 x), (.float .f64 y), undef, undef, (.bool false), v4, v5, v6, v7, v8, v9, v10, (.bool ((fcmp .neq (ford .f64 (cf .f64 x) (cf .f64 x))) || (fcmp .neq (ford .f64 (cf .f64 y) (cf .f64 y))))), undef, undef, undef, undef, undef, undef, undef, undef, v35, v36, v37, v38, v39, v40, undef, undef, undef, undef, undef, undef, undef, undef, undef, undef]) rfl (fun _ => rfl) (fun u hu hF => ?_) (fun v40 => ?_)
  · have h23_ : v37 = (.bool (fcmp .eql (ford .f64 (cf .f64 x) (cf .f64 0)))) := hF.1
    have h25_ : (fcmp .eql (ford .f64 (cf .f64 x) (cf .f64 0))) = true → v39 = (.bool (fcmp .eql (ford .f64 (cf .f64 y) (cf .f64 0)))) := hF.2.1
    clear hF
    obtain rfl := h23_
    refine doesG_un rfl ((does_pick (b := (fcmp .eql (ford .f64 (cf .f64 x) (cf .f64 0)))) (ev rfl) (ev rfl) (ev rfl)).mono ?_); rintro _ _ ⟨rfl, rfl⟩; refine ⟨?_, Ext.refl _⟩
    cases hbb : (fcmp .eql (ford .f64 (cf .f64 x) (cf .f64 0))) <;> simp [hbb] at h25_ ⊢
    all_goals (first | rfl | (subst h25_; rfl) | simp_all)
  refine RW_fin ?_; intro w41 E42 hP43
  obtain ⟨⟨⟨⟨⟨⟨-, -⟩, -⟩, -⟩, -⟩, -⟩, q44⟩ := hP43
  have X45 := Ext.gr X16 E42
  have q44 : v40 = (.bool ((fcmp .eql (ford .f64 (cf .f64 x) (cf .f64 0))) && (fcmp .eql (ford .f64 (cf .f64 y) (cf .f64 0))))) := q44
  obtain rfl := q44
  show wpList _ _ _ _ (fr [(.float .f64 x), (.float .f64 y), undef, undef, (.bool false), v4, v5, v6, v7, v8, v9, v10, (.bool ((fcmp .neq (ford .f64 (cf .f64 x) (cf .f64 x))) || (fcmp .neq (ford .f64 (cf .f64 y) (cf .f64 y))))), undef, undef, undef, undef, undef, undef, undef, undef, v35, v36, v37, v38, v39, (.bool ((fcmp .eql (ford .f64 (cf .f64 x) (cf .f64 0))) && (fcmp .eql (ford .f64 (cf .f64 y) (cf .f64 0))))), undef, undef, undef, undef, undef, undef, undef, undef, undef, undef]) _
  refine wpList_nil (hK34 _ _ ?_)
  refine wp_cond_split (t := (fcmp .eql (ford .f64 (cf .f64 x) (cf .f64 0))) && (fcmp .eql (ford .f64 (cf .f64 y) (cf .f64 0)))) (ev rfl) (fun c46 => ?_) (fun c46 => ?_)
  · have c46' := c46
    refine wp_seq_k fun K47 hK47 => ?_
    refine wp_region_lit ?_
    refine q_is (l' := [(.float .f64 x), (.float .f64 y), undef, undef, (.bool false), v4, v5, v6, v7, v8, v9, v10, (.bool ((fcmp .neq (ford .f64 (cf .f64 x) (cf .f64 x))) || (fcmp .neq (ford .f64 (cf .f64 y) (cf .f64 y))))), undef, undef, undef, undef, undef, undef, undef, undef, v35, v36, v37, v38, v39, (.bool ((fcmp .eql (ford .f64 (cf .f64 x) (cf .f64 0))) && (fcmp .eql (ford .f64 (cf .f64 y) (cf .f64 0))))), (.float .f64 x), undef, undef, undef, undef, undef, undef, undef, undef, undef]) rfl rfl (does_move (u := (.float .f64 x)) (ev rfl)) rfl ?_
    refine seqd rfl rfl (does_float (.inr (.inr (.inr rfl))) (ev rfl) (ev rfl)) ?_; rintro _ w51 ⟨r48, rfl, h49, E50⟩
    have X52 := Ext.gr X45 E50
    show wpList _ _ _ _ (fr [(.float .f64 x), (.float .f64 y), undef, undef, (.bool false), v4, v5, v6, v7, v8, v9, v10, (.bool ((fcmp .neq (ford .f64 (cf .f64 x) (cf .f64 x))) || (fcmp .neq (ford .f64 (cf .f64 y) (cf .f64 y))))), undef, undef, undef, undef, undef, undef, undef, undef, v35, v36, v37, v38, v39, (.bool ((fcmp .eql (ford .f64 (cf .f64 x) (cf .f64 0))) && (fcmp .eql (ford .f64 (cf .f64 y) (cf .f64 0))))), (.float .f64 x), (.float .f64 r48), undef, undef, undef, undef, undef, undef, undef, undef]) _
    refine q_is (l' := [(.float .f64 x), (.float .f64 y), undef, undef, (.bool false), v4, v5, v6, v7, v8, v9, v10, (.bool ((fcmp .neq (ford .f64 (cf .f64 x) (cf .f64 x))) || (fcmp .neq (ford .f64 (cf .f64 y) (cf .f64 y))))), undef, undef, undef, undef, undef, undef, undef, undef, v35, v36, v37, v38, v39, (.bool ((fcmp .eql (ford .f64 (cf .f64 x) (cf .f64 0))) && (fcmp .eql (ford .f64 (cf .f64 y) (cf .f64 0))))), (.float .f64 x), (.float .f64 r48), (.bool (fcmp .gtr (ford .f64 (cf .f64 r48) (cf .f64 0)))), undef, undef, undef, undef, undef, undef, undef]) rfl rfl (does_fcmp (.inr (.inr (.inr (.inr (.inl rfl))))) (ev rfl) (ev rfl)) rfl ?_
    refine q_is (l' := [(.float .f64 x), (.float .f64 y), undef, undef, (.bool false), v4, v5, v6, v7, v8, v9, v10, (.bool ((fcmp .neq (ford .f64 (cf .f64 x) (cf .f64 x))) || (fcmp .neq (ford .f64 (cf .f64 y) (cf .f64 y))))), undef, undef, undef, undef, undef, undef, undef, undef, v35, v36, v37, v38, v39, (.bool ((fcmp .eql (ford .f64 (cf .f64 x) (cf .f64 0))) && (fcmp .eql (ford .f64 (cf .f64 y) (cf .f64 0))))), (.float .f64 x), (.float .f64 r48), (.bool (fcmp .gtr (ford .f64 (cf .f64 r48) (cf .f64 0)))), (.float .f64 y), undef, undef, undef, undef, undef, undef]) rfl rfl (does_move (u := (.float .f64 y)) (ev rfl)) rfl ?_
    refine seqd rfl rfl (does_float (.inr (.inr (.inr rfl))) (ev rfl) (ev rfl)) ?_; rintro _ w56 ⟨r53, rfl, h54, E55⟩
    have X57 := Ext.gr X52 E55
    show wpList _ _ _ _ (fr [(.float .f64 x), (.float .f64 y), undef, undef, (.bool false), v4, v5, v6, v7, v8, v9, v10, (.bool ((fcmp .neq (ford .f64 (cf .f64 x) (cf .f64 x))) || (fcmp .neq (ford .f64 (cf .f64 y) (cf .f64 y))))), undef, undef, undef, undef, undef, undef, undef, undef, v35, v36, v37, v38, v39, (.bool ((fcmp .eql (ford .f64 (cf .f64 x) (cf .f64 0))) && (fcmp .eql (ford .f64 (cf .f64 y) (cf .f64 0))))), (.float .f64 x), (.float .f64 r48), (.bool (fcmp .gtr (ford .f64 (cf .f64 r48) (cf .f64 0)))), (.float .f64 y), (.float .f64 r53), undef, undef, undef, undef, undef]) _
    refine q_is (l' := [(.float .f64 x), (.float .f64 y), undef, undef, (.bool false), v4, v5, v6, v7, v8, v9, v10, (.bool ((fcmp .neq (ford .f64 (cf .f64 x) (cf .f64 x))) || (fcmp .neq (ford .f64 (cf .f64 y) (cf .f64 y))))), undef, undef, undef, undef, undef, undef, undef, undef, v35, v36, v37, v38, v39, (.bool ((fcmp .eql (ford .f64 (cf .f64 x) (cf .f64 0))) && (fcmp .eql (ford .f64 (cf .f64 y) (cf .f64 0))))), (.float .f64 x), (.float .f64 r48), (.bool (fcmp .gtr (ford .f64 (cf .f64 r48) (cf .f64 0)))), (.float .f64 y), (.float .f64 r53), (.bool (fcmp .gtr (ford .f64 (cf .f64 r53) (cf .f64 0)))), undef, undef, undef, undef]) rfl rfl (does_fcmp (.inr (.inr (.inr (.inr (.inl rfl))))) (ev rfl) (ev rfl)) rfl ?_
    refine q_is (l' := [(.float .f64 x), (.float .f64 y), undef, undef, (.bool false), v4, v5, v6, v7, v8, v9, v10, (.bool ((fcmp .neq (ford .f64 (cf .f64 x) (cf .f64 x))) || (fcmp .neq (ford .f64 (cf .f64 y) (cf .f64 y))))), undef, undef, undef, undef, undef, undef, undef, undef, v35, v36, v37, v38, v39, (.bool ((fcmp .eql (ford .f64 (cf .f64 x) (cf .f64 0))) && (fcmp .eql (ford .f64 (cf .f64 y) (cf .f64 0))))), (.float .f64 x), (.float .f64 r48), (.bool (fcmp .gtr (ford .f64 (cf .f64 r48) (cf .f64 0)))), (.float .f64 y), (.float .f64 r53), (.bool (fcmp .gtr (ford .f64 (cf .f64 r53) (cf .f64 0)))), (.bool ((fcmp .gtr (ford .f64 (cf .f64 r48) (cf .f64 0))) == (fcmp .gtr (ford .f64 (cf .f64 r53) (cf .f64 0))))), undef, undef, undef]) rfl rfl (does_beq (p := (fcmp .gtr (ford .f64 (cf .f64 r48) (cf .f64 0)))) (q := (fcmp .gtr (ford .f64 (cf .f64 r53) (cf .f64 0)))) Try.underlying4 (ev rfl) (ev rfl)) rfl ?_
    refine q_is (l' := [(.float .f64 x), (.float .f64 y), undef, undef, (.bool ((fcmp .gtr (ford .f64 (cf .f64 r48) (cf .f64 0))) == (fcmp .gtr (ford .f64 (cf .f64 r53) (cf .f64 0))))), v4, v5, v6, v7, v8, v9, v10, (.bool ((fcmp .neq (ford .f64 (cf .f64 x) (cf .f64 x))) || (fcmp .neq (ford .f64 (cf .f64 y) (cf .f64 y))))), undef, undef, undef, undef, undef, undef, undef, undef, v35, v36, v37, v38, v39, (.bool ((fcmp .eql (ford .f64 (cf .f64 x) (cf .f64 0))) && (fcmp .eql (ford .f64 (cf .f64 y) (cf .f64 0))))), (.float .f64 x), (.float .f64 r48), (.bool (fcmp .gtr (ford .f64 (cf .f64 r48) (cf .f64 0)))), (.float .f64 y), (.float .f64 r53), (.bool (fcmp .gtr (ford .f64 (cf .f64 r53) (cf .f64 0)))), (.bool ((fcmp .gtr (ford .f64 (cf .f64 r48) (cf .f64 0))) == (fcmp .gtr (ford .f64 (cf .f64 r53) (cf .f64 0))))), undef, undef, undef]) rfl rfl (does_assign (u := (.bool ((fcmp .gtr (ford .f64 (cf .f64 r48) (cf .f64 0))) == (fcmp .gtr (ford .f64 (cf .f64 r53) (cf .f64 0)))))) (ev rfl)) rfl ?_
    refine wpList_nil (hK47 _ _ ?_)
    refine wp_ret ?_
    dsimp only [Exit.then, Exit.inBlock]
    refine ret_val (v := (.bool ((fcmp .gtr (ford .f64 (cf .f64 r48) (cf .f64 0))) == (fcmp .gtr (ford .f64 (cf .f64 r53) (cf .f64 0)))))) (res_T rfl (slot rfl)) X57 ?_
    try simp only [h49, h54] at c17 c46
    have x58 : (sameF (cf .f64 x) (cf .f64 y)) = ((fcmp .gtr (ford .f64 (cf .f64 r48) (cf .f64 0))) == (fcmp .gtr (ford .f64 (cf .f64 r53) (cf .f64 0)))) := by first | rfl | (simp only [sameF, h49, h54, c17, c46]; done) | (simp [sameF, h49, h54, c17, c46]; done) | (revert c17 c46; simp +contextual [sameF, h49, h54]; done)
    exact (by first | rfl | rw [x58])
  have c46' := c46
  refine wp_skip (hK33 _ _ ?_)
  refine wp_seq_k fun K59 hK59 => ?_
  refine wp_region_lit ?_
  refine q_is (l' := [(.float .f64 x), (.float .f64 y), undef, undef, (.bool false), v4, v5, v6, v7, v8, v9, v10, (.bool ((fcmp .neq (ford .f64 (cf .f64 x) (cf .f64 x))) || (fcmp .neq (ford .f64 (cf .f64 y) (cf .f64 y))))), undef, undef, undef, undef, undef, undef, undef, undef, v35, v36, v37, v38, v39, (.bool ((fcmp .eql (ford .f64 (cf .f64 x) (cf .f64 0))) && (fcmp .eql (ford .f64 (cf .f64 y) (cf .f64 0))))), undef, undef, undef, undef, undef, undef, undef, (.float .f64 x), undef, undef]) rfl rfl (does_move (u := (.float .f64 x)) (ev rfl)) rfl ?_
  refine q_is (l' := [(.float .f64 x), (.float .f64 y), undef, undef, (.bool false), v4, v5, v6, v7, v8, v9, v10, (.bool ((fcmp .neq (ford .f64 (cf .f64 x) (cf .f64 x))) || (fcmp .neq (ford .f64 (cf .f64 y) (cf .f64 y))))), undef, undef, undef, undef, undef, undef, undef, undef, v35, v36, v37, v38, v39, (.bool ((fcmp .eql (ford .f64 (cf .f64 x) (cf .f64 0))) && (fcmp .eql (ford .f64 (cf .f64 y) (cf .f64 0))))), undef, undef, undef, undef, undef, undef, undef, (.float .f64 x), (.float .f64 y), undef]) rfl rfl (does_move (u := (.float .f64 y)) (ev rfl)) rfl ?_
  refine q_is (l' := [(.float .f64 x), (.float .f64 y), undef, undef, (.bool false), v4, v5, v6, v7, v8, v9, v10, (.bool ((fcmp .neq (ford .f64 (cf .f64 x) (cf .f64 x))) || (fcmp .neq (ford .f64 (cf .f64 y) (cf .f64 y))))), undef, undef, undef, undef, undef, undef, undef, undef, v35, v36, v37, v38, v39, (.bool ((fcmp .eql (ford .f64 (cf .f64 x) (cf .f64 0))) && (fcmp .eql (ford .f64 (cf .f64 y) (cf .f64 0))))), undef, undef, undef, undef, undef, undef, undef, (.float .f64 x), (.float .f64 y), (.bool (fcmp .eql (ford .f64 (cf .f64 x) (cf .f64 y))))]) rfl rfl (does_fcmp (.inl rfl) (ev rfl) (ev rfl)) rfl ?_
  refine q_is (l' := [(.float .f64 x), (.float .f64 y), undef, undef, (.bool (fcmp .eql (ford .f64 (cf .f64 x) (cf .f64 y)))), v4, v5, v6, v7, v8, v9, v10, (.bool ((fcmp .neq (ford .f64 (cf .f64 x) (cf .f64 x))) || (fcmp .neq (ford .f64 (cf .f64 y) (cf .f64 y))))), undef, undef, undef, undef, undef, undef, undef, undef, v35, v36, v37, v38, v39, (.bool ((fcmp .eql (ford .f64 (cf .f64 x) (cf .f64 0))) && (fcmp .eql (ford .f64 (cf .f64 y) (cf .f64 0))))), undef, undef, undef, undef, undef, undef, undef, (.float .f64 x), (.float .f64 y), (.bool (fcmp .eql (ford .f64 (cf .f64 x) (cf .f64 y))))]) rfl rfl (does_assign (u := (.bool (fcmp .eql (ford .f64 (cf .f64 x) (cf .f64 y))))) (ev rfl)) rfl ?_
  refine wpList_nil (hK59 _ _ ?_)
  refine wp_ret ?_
  refine ret_val (v := (.bool (fcmp .eql (ford .f64 (cf .f64 x) (cf .f64 y))))) (res_T rfl (slot rfl)) X45 ?_
  have x60 : (sameF (cf .f64 x) (cf .f64 y)) = (fcmp .eql (ford .f64 (cf .f64 x) (cf .f64 y))) := by first | rfl | (simp only [sameF, c17, c46]; done) | (simp [sameF, c17, c46]; done) | (revert c17 c46; simp +contextual [sameF]; done)
  exact (by first | rfl | rw [x60])

/- laws.eqRange -/
theorem c_laws_eqRange (rl : Nat) (rh : Nat) (ql : Nat) (qh : Nat) (w : World) : Gives Try.prog 26 #[(.agg #[(.float .f32 rl), (.float .f32 rh)]), (.agg #[(.float .f32 ql), (.float .f32 qh)])] w (fun v w' => v = (.bool (sameF (fwid (cf .f32 rl)) (fwid (cf .f32 ql)) && sameF (fwid (cf .f32 rh)) (fwid (cf .f32 qh))))) := by
  refine enter [(.agg #[(.float .f32 rl), (.float .f32 rh)]), (.agg #[(.float .f32 ql), (.float .f32 qh)]), undef, undef, undef, undef, undef, undef, undef, undef, undef, undef, undef, undef, undef, undef, undef, undef, undef, undef, undef] Try.func26 rfl Try.ntmps26 rfl ?_
  refine wp_seq_k fun K1 hK1 => ?_
  refine wp_region_lit ?_
  refine seqd rfl rfl (does_box (u := (.agg #[(.float .f32 rl), (.float .f32 rh)])) (ev rfl)) ?_; rintro _ w6 ⟨b2, rfl, hb3, hB4, E5⟩
  have g7 : w.heap.size ≤ b2 := Nat.le_trans (Below.size (Ext.refl w)) hb3
  change Blk _ _ [(.float .f32 rl), (.float .f32 rh)] at hB4
  have X8 := Ext.gr (Ext.refl w) E5
  show wpList _ _ _ _ (fr [(.agg #[(.float .f32 rl), (.float .f32 rh)]), (.agg #[(.float .f32 ql), (.float .f32 qh)]), (.pointer (some ⟨b2, 0, none⟩)), undef, undef, undef, undef, undef, undef, undef, undef, undef, undef, undef, undef, undef, undef, undef, undef, undef, undef]) _
  refine seqd rfl rfl (does_box (u := (.agg #[(.float .f32 ql), (.float .f32 qh)])) (ev rfl)) ?_; rintro _ w13 ⟨b9, rfl, hb10, hB11, E12⟩
  have n14 : b2 < b9 := Nat.lt_of_lt_of_le (Blk.lt hB4) hb10
  have g15 : w.heap.size ≤ b9 := Nat.le_trans (Below.size X8) hb10
  change Blk _ _ [(.float .f32 ql), (.float .f32 qh)] at hB11
  have X16 := Ext.gr X8 E12
  show wpList _ _ _ _ (fr [(.agg #[(.float .f32 rl), (.float .f32 rh)]), (.agg #[(.float .f32 ql), (.float .f32 qh)]), (.pointer (some ⟨b2, 0, none⟩)), (.pointer (some ⟨b9, 0, none⟩)), undef, undef, undef, undef, undef, undef, undef, undef, undef, undef, undef, undef, undef, undef, undef, undef, undef]) _
  refine q_is (l' := [(.agg #[(.float .f32 rl), (.float .f32 rh)]), (.agg #[(.float .f32 ql), (.float .f32 qh)]), (.pointer (some ⟨b2, 0, none⟩)), (.pointer (some ⟨b9, 0, none⟩)), (.bool false), undef, undef, undef, undef, undef, undef, undef, undef, undef, undef, undef, undef, undef, undef, undef, undef]) rfl rfl (does_assign (u := (.bool false)) (ev rfl)) rfl ?_
  refine wpList_nil (hK1 _ _ ?_)
  refine wp_seq_k fun K17 hK17 => ?_
  refine wp_seq_k fun K18 hK18 => ?_
  refine wp_region_lit ?_
  refine q_is (l' := [(.agg #[(.float .f32 rl), (.float .f32 rh)]), (.agg #[(.float .f32 ql), (.float .f32 qh)]), (.pointer (some ⟨b2, 0, none⟩)), (.pointer (some ⟨b9, 0, none⟩)), (.bool false), (.pointer (some ⟨b2, 0, none⟩)), undef, undef, undef, undef, undef, undef, undef, undef, undef, undef, undef, undef, undef, undef, undef]) rfl rfl (does_fieldAddr (ev rfl) fa41_0) rfl ?_
  refine q_is (l' := [(.agg #[(.float .f32 rl), (.float .f32 rh)]), (.agg #[(.float .f32 ql), (.float .f32 qh)]), (.pointer (some ⟨b2, 0, none⟩)), (.pointer (some ⟨b9, 0, none⟩)), (.bool false), (.pointer (some ⟨b2, 0, none⟩)), (.float .f32 rl), undef, undef, undef, undef, undef, undef, undef, undef, undef, undef, undef, undef, undef, undef]) rfl rfl (does_load (u := (.float .f32 rl)) (ev rfl) Try.isAgg25 (Cells.at (Blk.cells (hB4.ext E12)) 0 rfl)) rfl ?_
  refine seqd rfl rfl (does_widen Try.underlying25 Try.underlying89 (ev rfl)) ?_; rintro _ w22 ⟨r19, rfl, h20, E21⟩
  have X23 := Ext.gr X16 E21
  show wpList _ _ _ _ (fr [(.agg #[(.float .f32 rl), (.float .f32 rh)]), (.agg #[(.float .f32 ql), (.float .f32 qh)]), (.pointer (some ⟨b2, 0, none⟩)), (.pointer (some ⟨b9, 0, none⟩)), (.bool false), (.pointer (some ⟨b2, 0, none⟩)), (.float .f32 rl), (.float .f64 r19), undef, undef, undef, undef, undef, undef, undef, undef, undef, undef, undef, undef, undef]) _
  refine q_is (l' := [(.agg #[(.float .f32 rl), (.float .f32 rh)]), (.agg #[(.float .f32 ql), (.float .f32 qh)]), (.pointer (some ⟨b2, 0, none⟩)), (.pointer (some ⟨b9, 0, none⟩)), (.bool false), (.pointer (some ⟨b2, 0, none⟩)), (.float .f32 rl), (.float .f64 r19), (.pointer (some ⟨b9, 0, none⟩)), undef, undef, undef, undef, undef, undef, undef, undef, undef, undef, undef, undef]) rfl rfl (does_fieldAddr (ev rfl) fa41_0) rfl ?_
  refine q_is (l' := [(.agg #[(.float .f32 rl), (.float .f32 rh)]), (.agg #[(.float .f32 ql), (.float .f32 qh)]), (.pointer (some ⟨b2, 0, none⟩)), (.pointer (some ⟨b9, 0, none⟩)), (.bool false), (.pointer (some ⟨b2, 0, none⟩)), (.float .f32 rl), (.float .f64 r19), (.pointer (some ⟨b9, 0, none⟩)), (.float .f32 ql), undef, undef, undef, undef, undef, undef, undef, undef, undef, undef, undef]) rfl rfl (does_load (u := (.float .f32 ql)) (ev rfl) Try.isAgg25 (Cells.at (Blk.cells (hB11.ext E21)) 0 rfl)) rfl ?_
  refine seqd rfl rfl (does_widen Try.underlying25 Try.underlying89 (ev rfl)) ?_; rintro _ w27 ⟨r24, rfl, h25, E26⟩
  have X28 := Ext.gr X23 E26
  show wpList _ _ _ _ (fr [(.agg #[(.float .f32 rl), (.float .f32 rh)]), (.agg #[(.float .f32 ql), (.float .f32 qh)]), (.pointer (some ⟨b2, 0, none⟩)), (.pointer (some ⟨b9, 0, none⟩)), (.bool false), (.pointer (some ⟨b2, 0, none⟩)), (.float .f32 rl), (.float .f64 r19), (.pointer (some ⟨b9, 0, none⟩)), (.float .f32 ql), (.float .f64 r24), undef, undef, undef, undef, undef, undef, undef, undef, undef, undef]) _
  refine seqd rfl rfl (does_call (args := #[(.float .f64 r19), (.float .f64 r24)]) cal56 (evs rfl) (c_laws_sameFloat r19 r24 _)) ?_; rintro _ w30 ⟨E29, rfl⟩
  have X31 := Ext.gr X28 E29
  show wpList _ _ _ _ (fr [(.agg #[(.float .f32 rl), (.float .f32 rh)]), (.agg #[(.float .f32 ql), (.float .f32 qh)]), (.pointer (some ⟨b2, 0, none⟩)), (.pointer (some ⟨b9, 0, none⟩)), (.bool false), (.pointer (some ⟨b2, 0, none⟩)), (.float .f32 rl), (.float .f64 r19), (.pointer (some ⟨b9, 0, none⟩)), (.float .f32 ql), (.float .f64 r24), (.bool (sameF (cf .f64 r19) (cf .f64 r24))), undef, undef, undef, undef, undef, undef, undef, undef, undef]) _
  refine q_is (l' := [(.agg #[(.float .f32 rl), (.float .f32 rh)]), (.agg #[(.float .f32 ql), (.float .f32 qh)]), (.pointer (some ⟨b2, 0, none⟩)), (.pointer (some ⟨b9, 0, none⟩)), (.bool false), (.pointer (some ⟨b2, 0, none⟩)), (.float .f32 rl), (.float .f64 r19), (.pointer (some ⟨b9, 0, none⟩)), (.float .f32 ql), (.float .f64 r24), (.bool (sameF (cf .f64 r19) (cf .f64 r24))), (.bool (!(sameF (cf .f64 r19) (cf .f64 r24)))), undef, undef, undef, undef, undef, undef, undef, undef]) rfl rfl (does_not (ev rfl)) rfl ?_
  refine wpList_nil (hK18 _ _ ?_)
  refine wp_cond_split (t := !(sameF (cf .f64 r19) (cf .f64 r24))) (ev rfl) (fun c32 => ?_) (fun c32 => ?_)
  · rw [Bool.not_eq_true'] at c32
    have c32' := c32
    refine wp_seq_k fun K33 hK33 => ?_
    refine wp_region_lit ?_
    refine q_is (l' := [(.agg #[(.float .f32 rl), (.float .f32 rh)]), (.agg #[(.float .f32 ql), (.float .f32 qh)]), (.pointer (some ⟨b2, 0, none⟩)), (.pointer (some ⟨b9, 0, none⟩)), (.bool false), (.pointer (some ⟨b2, 0, none⟩)), (.float .f32 rl), (.float .f64 r19), (.pointer (some ⟨b9, 0, none⟩)), (.float .f32 ql), (.float .f64 r24), (.bool (sameF (cf .f64 r19) (cf .f64 r24))), (.bool (!(sameF (cf .f64 r19) (cf .f64 r24)))), undef, undef, undef, undef, undef, undef, undef, undef]) rfl rfl (does_assign (u := (.bool false)) (ev rfl)) rfl ?_
    refine wpList_nil (hK33 _ _ ?_)
    refine wp_ret ?_
    dsimp only [Exit.then, Exit.inBlock]
    refine ret_val (v := (.bool false)) (res_T rfl (slot rfl)) X31 ?_
    try simp only [h20, h25] at c32
    have x34 : (sameF (fwid (cf .f32 rl)) (fwid (cf .f32 ql)) && sameF (fwid (cf .f32 rh)) (fwid (cf .f32 qh))) = false := by first | rfl | (simp only [h20, h25, c32]; done) | (simp [h20, h25, c32]; done) | (revert c32; simp +contextual [h20, h25]; done)
    exact (by first | rfl | rw [x34])
  rw [Bool.not_eq_false'] at c32
  have c32' := c32
  refine wp_skip (hK17 _ _ ?_)
  refine wp_seq_k fun K35 hK35 => ?_
  refine wp_seq_k fun K36 hK36 => ?_
  refine wp_region_lit ?_
  refine q_is (l' := [(.agg #[(.float .f32 rl), (.float .f32 rh)]), (.agg #[(.float .f32 ql), (.float .f32 qh)]), (.pointer (some ⟨b2, 0, none⟩)), (.pointer (some ⟨b9, 0, none⟩)), (.bool false), (.pointer (some ⟨b2, 0, none⟩)), (.float .f32 rl), (.float .f64 r19), (.pointer (some ⟨b9, 0, none⟩)), (.float .f32 ql), (.float .f64 r24), (.bool (sameF (cf .f64 r19) (cf .f64 r24))), (.bool (!(sameF (cf .f64 r19) (cf .f64 r24)))), (.pointer (some ⟨b2, 1, none⟩)), undef, undef, undef, undef, undef, undef, undef]) rfl rfl (does_fieldAddr (ev rfl) fa41_1) rfl ?_
  refine q_is (l' := [(.agg #[(.float .f32 rl), (.float .f32 rh)]), (.agg #[(.float .f32 ql), (.float .f32 qh)]), (.pointer (some ⟨b2, 0, none⟩)), (.pointer (some ⟨b9, 0, none⟩)), (.bool false), (.pointer (some ⟨b2, 0, none⟩)), (.float .f32 rl), (.float .f64 r19), (.pointer (some ⟨b9, 0, none⟩)), (.float .f32 ql), (.float .f64 r24), (.bool (sameF (cf .f64 r19) (cf .f64 r24))), (.bool (!(sameF (cf .f64 r19) (cf .f64 r24)))), (.pointer (some ⟨b2, 1, none⟩)), (.float .f32 rh), undef, undef, undef, undef, undef, undef]) rfl rfl (does_load (u := (.float .f32 rh)) (ev rfl) Try.isAgg25 (Cells.at (Blk.cells ((((hB4.ext E12).ext E21).ext E26).ext E29)) 1 rfl)) rfl ?_
  refine seqd rfl rfl (does_widen Try.underlying25 Try.underlying89 (ev rfl)) ?_; rintro _ w40 ⟨r37, rfl, h38, E39⟩
  have X41 := Ext.gr X31 E39
  show wpList _ _ _ _ (fr [(.agg #[(.float .f32 rl), (.float .f32 rh)]), (.agg #[(.float .f32 ql), (.float .f32 qh)]), (.pointer (some ⟨b2, 0, none⟩)), (.pointer (some ⟨b9, 0, none⟩)), (.bool false), (.pointer (some ⟨b2, 0, none⟩)), (.float .f32 rl), (.float .f64 r19), (.pointer (some ⟨b9, 0, none⟩)), (.float .f32 ql), (.float .f64 r24), (.bool (sameF (cf .f64 r19) (cf .f64 r24))), (.bool (!(sameF (cf .f64 r19) (cf .f64 r24)))), (.pointer (some ⟨b2, 1, none⟩)), (.float .f32 rh), (.float .f64 r37), undef, undef, undef, undef, undef]) _
  refine q_is (l' := [(.agg #[(.float .f32 rl), (.float .f32 rh)]), (.agg #[(.float .f32 ql), (.float .f32 qh)]), (.pointer (some ⟨b2, 0, none⟩)), (.pointer (some ⟨b9, 0, none⟩)), (.bool false), (.pointer (some ⟨b2, 0, none⟩)), (.float .f32 rl), (.float .f64 r19), (.pointer (some ⟨b9, 0, none⟩)), (.float .f32 ql), (.float .f64 r24), (.bool (sameF (cf .f64 r19) (cf .f64 r24))), (.bool (!(sameF (cf .f64 r19) (cf .f64 r24)))), (.pointer (some ⟨b2, 1, none⟩)), (.float .f32 rh), (.float .f64 r37), (.pointer (some ⟨b9, 1, none⟩)), undef, undef, undef, undef]) rfl rfl (does_fieldAddr (ev rfl) fa41_1) rfl ?_
  refine q_is (l' := [(.agg #[(.float .f32 rl), (.float .f32 rh)]), (.agg #[(.float .f32 ql), (.float .f32 qh)]), (.pointer (some ⟨b2, 0, none⟩)), (.pointer (some ⟨b9, 0, none⟩)), (.bool false), (.pointer (some ⟨b2, 0, none⟩)), (.float .f32 rl), (.float .f64 r19), (.pointer (some ⟨b9, 0, none⟩)), (.float .f32 ql), (.float .f64 r24), (.bool (sameF (cf .f64 r19) (cf .f64 r24))), (.bool (!(sameF (cf .f64 r19) (cf .f64 r24)))), (.pointer (some ⟨b2, 1, none⟩)), (.float .f32 rh), (.float .f64 r37), (.pointer (some ⟨b9, 1, none⟩)), (.float .f32 qh), undef, undef, undef]) rfl rfl (does_load (u := (.float .f32 qh)) (ev rfl) Try.isAgg25 (Cells.at (Blk.cells ((((hB11.ext E21).ext E26).ext E29).ext E39)) 1 rfl)) rfl ?_
  refine seqd rfl rfl (does_widen Try.underlying25 Try.underlying89 (ev rfl)) ?_; rintro _ w45 ⟨r42, rfl, h43, E44⟩
  have X46 := Ext.gr X41 E44
  show wpList _ _ _ _ (fr [(.agg #[(.float .f32 rl), (.float .f32 rh)]), (.agg #[(.float .f32 ql), (.float .f32 qh)]), (.pointer (some ⟨b2, 0, none⟩)), (.pointer (some ⟨b9, 0, none⟩)), (.bool false), (.pointer (some ⟨b2, 0, none⟩)), (.float .f32 rl), (.float .f64 r19), (.pointer (some ⟨b9, 0, none⟩)), (.float .f32 ql), (.float .f64 r24), (.bool (sameF (cf .f64 r19) (cf .f64 r24))), (.bool (!(sameF (cf .f64 r19) (cf .f64 r24)))), (.pointer (some ⟨b2, 1, none⟩)), (.float .f32 rh), (.float .f64 r37), (.pointer (some ⟨b9, 1, none⟩)), (.float .f32 qh), (.float .f64 r42), undef, undef]) _
  refine seqd rfl rfl (does_call (args := #[(.float .f64 r37), (.float .f64 r42)]) cal56 (evs rfl) (c_laws_sameFloat r37 r42 _)) ?_; rintro _ w48 ⟨E47, rfl⟩
  have X49 := Ext.gr X46 E47
  show wpList _ _ _ _ (fr [(.agg #[(.float .f32 rl), (.float .f32 rh)]), (.agg #[(.float .f32 ql), (.float .f32 qh)]), (.pointer (some ⟨b2, 0, none⟩)), (.pointer (some ⟨b9, 0, none⟩)), (.bool false), (.pointer (some ⟨b2, 0, none⟩)), (.float .f32 rl), (.float .f64 r19), (.pointer (some ⟨b9, 0, none⟩)), (.float .f32 ql), (.float .f64 r24), (.bool (sameF (cf .f64 r19) (cf .f64 r24))), (.bool (!(sameF (cf .f64 r19) (cf .f64 r24)))), (.pointer (some ⟨b2, 1, none⟩)), (.float .f32 rh), (.float .f64 r37), (.pointer (some ⟨b9, 1, none⟩)), (.float .f32 qh), (.float .f64 r42), (.bool (sameF (cf .f64 r37) (cf .f64 r42))), undef]) _
  refine q_is (l' := [(.agg #[(.float .f32 rl), (.float .f32 rh)]), (.agg #[(.float .f32 ql), (.float .f32 qh)]), (.pointer (some ⟨b2, 0, none⟩)), (.pointer (some ⟨b9, 0, none⟩)), (.bool false), (.pointer (some ⟨b2, 0, none⟩)), (.float .f32 rl), (.float .f64 r19), (.pointer (some ⟨b9, 0, none⟩)), (.float .f32 ql), (.float .f64 r24), (.bool (sameF (cf .f64 r19) (cf .f64 r24))), (.bool (!(sameF (cf .f64 r19) (cf .f64 r24)))), (.pointer (some ⟨b2, 1, none⟩)), (.float .f32 rh), (.float .f64 r37), (.pointer (some ⟨b9, 1, none⟩)), (.float .f32 qh), (.float .f64 r42), (.bool (sameF (cf .f64 r37) (cf .f64 r42))), (.bool (!(sameF (cf .f64 r37) (cf .f64 r42))))]) rfl rfl (does_not (ev rfl)) rfl ?_
  refine wpList_nil (hK36 _ _ ?_)
  refine wp_cond_split (t := !(sameF (cf .f64 r37) (cf .f64 r42))) (ev rfl) (fun c50 => ?_) (fun c50 => ?_)
  · rw [Bool.not_eq_true'] at c50
    have c50' := c50
    refine wp_seq_k fun K51 hK51 => ?_
    refine wp_region_lit ?_
    refine q_is (l' := [(.agg #[(.float .f32 rl), (.float .f32 rh)]), (.agg #[(.float .f32 ql), (.float .f32 qh)]), (.pointer (some ⟨b2, 0, none⟩)), (.pointer (some ⟨b9, 0, none⟩)), (.bool false), (.pointer (some ⟨b2, 0, none⟩)), (.float .f32 rl), (.float .f64 r19), (.pointer (some ⟨b9, 0, none⟩)), (.float .f32 ql), (.float .f64 r24), (.bool (sameF (cf .f64 r19) (cf .f64 r24))), (.bool (!(sameF (cf .f64 r19) (cf .f64 r24)))), (.pointer (some ⟨b2, 1, none⟩)), (.float .f32 rh), (.float .f64 r37), (.pointer (some ⟨b9, 1, none⟩)), (.float .f32 qh), (.float .f64 r42), (.bool (sameF (cf .f64 r37) (cf .f64 r42))), (.bool (!(sameF (cf .f64 r37) (cf .f64 r42))))]) rfl rfl (does_assign (u := (.bool false)) (ev rfl)) rfl ?_
    refine wpList_nil (hK51 _ _ ?_)
    refine wp_ret ?_
    dsimp only [Exit.then, Exit.inBlock]
    refine ret_val (v := (.bool false)) (res_T rfl (slot rfl)) X49 ?_
    try simp only [h20, h25, h38, h43] at c32 c50
    have x52 : (sameF (fwid (cf .f32 rl)) (fwid (cf .f32 ql)) && sameF (fwid (cf .f32 rh)) (fwid (cf .f32 qh))) = false := by first | rfl | (simp only [h20, h25, h38, h43, c32, c50]; done) | (simp [h20, h25, h38, h43, c32, c50]; done) | (revert c32 c50; simp +contextual [h20, h25, h38, h43]; done)
    exact (by first | rfl | rw [x52])
  rw [Bool.not_eq_false'] at c50
  have c50' := c50
  refine wp_skip (hK35 _ _ ?_)
  refine wp_seq_k fun K53 hK53 => ?_
  refine wp_region_lit ?_
  refine q_is (l' := [(.agg #[(.float .f32 rl), (.float .f32 rh)]), (.agg #[(.float .f32 ql), (.float .f32 qh)]), (.pointer (some ⟨b2, 0, none⟩)), (.pointer (some ⟨b9, 0, none⟩)), (.bool true), (.pointer (some ⟨b2, 0, none⟩)), (.float .f32 rl), (.float .f64 r19), (.pointer (some ⟨b9, 0, none⟩)), (.float .f32 ql), (.float .f64 r24), (.bool (sameF (cf .f64 r19) (cf .f64 r24))), (.bool (!(sameF (cf .f64 r19) (cf .f64 r24)))), (.pointer (some ⟨b2, 1, none⟩)), (.float .f32 rh), (.float .f64 r37), (.pointer (some ⟨b9, 1, none⟩)), (.float .f32 qh), (.float .f64 r42), (.bool (sameF (cf .f64 r37) (cf .f64 r42))), (.bool (!(sameF (cf .f64 r37) (cf .f64 r42))))]) rfl rfl (does_assign (u := (.bool true)) (ev rfl)) rfl ?_
  refine wpList_nil (hK53 _ _ ?_)
  refine wp_ret ?_
  refine ret_val (v := (.bool true)) (res_T rfl (slot rfl)) X49 ?_
  try simp only [h20, h25, h38, h43] at c32 c50
  have x54 : (sameF (fwid (cf .f32 rl)) (fwid (cf .f32 ql)) && sameF (fwid (cf .f32 rh)) (fwid (cf .f32 qh))) = true := by first | rfl | (simp only [h20, h25, h38, h43, c32, c50]; done) | (simp [h20, h25, h38, h43, c32, c50]; done) | (revert c32 c50; simp +contextual [h20, h25, h38, h43]; done)
  exact (by first | rfl | rw [x54])

/- laws.FnExactSizeRange -/
theorem c_laws_FnExactSizeRange (rl : Nat) (rh : Nat) (w : World) : Gives Try.prog 6 #[(.agg #[(.float .f32 rl), (.float .f32 rh)])] w (fun v w' => v = (.bool true)) := by
  refine enter [(.agg #[(.float .f32 rl), (.float .f32 rh)]), undef, undef, undef, undef, undef, undef, undef, undef, undef, undef, undef, undef, undef, undef] Try.func6 rfl Try.ntmps6 rfl ?_
  refine wp_seq_k fun K1 hK1 => ?_
  refine wp_region_lit ?_
  refine seqd rfl rfl (does_box (u := (.agg #[(.float .f32 rl), (.float .f32 rh)])) (ev rfl)) ?_; rintro _ w6 ⟨b2, rfl, hb3, hB4, E5⟩
  have g7 : w.heap.size ≤ b2 := Nat.le_trans (Below.size (Ext.refl w)) hb3
  change Blk _ _ [(.float .f32 rl), (.float .f32 rh)] at hB4
  have X8 := Ext.gr (Ext.refl w) E5
  show wpList _ _ _ _ (fr [(.agg #[(.float .f32 rl), (.float .f32 rh)]), (.pointer (some ⟨b2, 0, none⟩)), undef, undef, undef, undef, undef, undef, undef, undef, undef, undef, undef, undef, undef]) _
  refine q_is (l' := [(.agg #[(.float .f32 rl), (.float .f32 rh)]), (.pointer (some ⟨b2, 0, none⟩)), (.bool false), undef, undef, undef, undef, undef, undef, undef, undef, undef, undef, undef, undef]) rfl rfl (does_assign (u := (.bool false)) (ev rfl)) rfl ?_
  refine wpList_nil (hK1 _ _ ?_)
  refine wp_seq_k fun K9 hK9 => ?_
  refine wp_region_lit ?_
  refine q_is (l' := [(.agg #[(.float .f32 rl), (.float .f32 rh)]), (.pointer (some ⟨b2, 0, none⟩)), (.bool false), undef, undef, (.agg #[(.float .f32 rl), (.float .f32 rh)]), undef, undef, undef, undef, undef, undef, undef, undef, undef]) rfl rfl (does_loadAgg (cs := [(.float .f32 rl), (.float .f32 rh)]) (ev rfl) Try.isAgg40 Try.sizeOf40 (Blk.cells hB4) rfl) rfl ?_
  refine seqd rfl rfl (does_call (args := #[(.agg #[(.float .f32 rl), (.float .f32 rh)])]) cal24 (evs rfl) (c_laws_toRange rl rh _)) ?_; rintro _ w11 ⟨E10, ⟨r12, r13, rfl, h14, h15⟩⟩
  have X16 := Ext.gr X8 E10
  show wpList _ _ _ _ (fr [(.agg #[(.float .f32 rl), (.float .f32 rh)]), (.pointer (some ⟨b2, 0, none⟩)), (.bool false), undef, undef, (.agg #[(.float .f32 rl), (.float .f32 rh)]), (.agg #[(.float .f32 r12), (.float .f32 r13)]), undef, undef, undef, undef, undef, undef, undef, undef]) _
  refine seqd rfl rfl (does_call (args := #[(.agg #[(.float .f32 r12), (.float .f32 r13)])]) cal23 (evs rfl) (c_spec_SizeRange r12 r13 _)) ?_; rintro _ w18 ⟨E17, ⟨r19, r20, rfl, h21, h22⟩⟩
  have X23 := Ext.gr X16 E17
  show wpList _ _ _ _ (fr [(.agg #[(.float .f32 rl), (.float .f32 rh)]), (.pointer (some ⟨b2, 0, none⟩)), (.bool false), undef, undef, (.agg #[(.float .f32 rl), (.float .f32 rh)]), (.agg #[(.float .f32 r12), (.float .f32 r13)]), (.agg #[(.float .f32 r19), (.float .f32 r20)]), undef, undef, undef, undef, undef, undef, undef]) _
  refine seqd rfl rfl (does_alloc z41) ?_; rintro _ w28 ⟨b24, rfl, hb25, hB26, E27⟩
  have n29 : b2 < b24 := Nat.lt_of_lt_of_le (Blk.lt ((hB4.ext E10).ext E17)) hb25
  have g30 : w.heap.size ≤ b24 := Nat.le_trans (Below.size X23) hb25
  change Blk _ _ [(.float .f32 0), (.float .f32 0)] at hB26
  have X31 := Ext.gr X23 E27
  show wpList _ _ _ _ (fr [(.agg #[(.float .f32 rl), (.float .f32 rh)]), (.pointer (some ⟨b2, 0, none⟩)), (.bool false), (.pointer (some ⟨b24, 0, none⟩)), undef, (.agg #[(.float .f32 rl), (.float .f32 rh)]), (.agg #[(.float .f32 r12), (.float .f32 r13)]), (.agg #[(.float .f32 r19), (.float .f32 r20)]), undef, undef, undef, undef, undef, undef, undef]) _
  refine seqn rfl rfl (does_store (n := 2) (cs := [(.float .f32 0), (.float .f32 0)]) (u := (.agg #[(.float .f32 r19), (.float .f32 r20)])) (ev rfl) (ev rfl) Try.sizeOf41 rfl hB26 (Nat.le_of_ble_eq_true rfl) rfl) ?_; rintro _ w34 ⟨rfl, W32, hB33⟩
  change Blk _ _ [(.float .f32 r19), (.float .f32 r20)] at hB33
  have X35 := Below.wr X31 W32 g30
  refine wpList_nil (hK9 _ _ ?_)
  refine wp_seq_k fun K36 hK36 => ?_
  refine wp_region_lit ?_
  refine q_is (l' := [(.agg #[(.float .f32 rl), (.float .f32 rh)]), (.pointer (some ⟨b2, 0, none⟩)), (.bool false), (.pointer (some ⟨b24, 0, none⟩)), undef, (.agg #[(.float .f32 rl), (.float .f32 rh)]), (.agg #[(.float .f32 r12), (.float .f32 r13)]), (.agg #[(.float .f32 r19), (.float .f32 r20)]), (.agg #[(.float .f32 rl), (.float .f32 rh)]), undef, undef, undef, undef, undef, undef]) rfl rfl (does_loadAgg (cs := [(.float .f32 rl), (.float .f32 rh)]) (ev rfl) Try.isAgg40 Try.sizeOf40 (Blk.cells ((((hB4.ext E10).ext E17).ext E27).wr W32 (Nat.ne_of_lt n29))) rfl) rfl ?_
  refine seqd rfl rfl (does_call (args := #[(.agg #[(.float .f32 rl), (.float .f32 rh)])]) cal24 (evs rfl) (c_laws_toRange rl rh _)) ?_; rintro _ w38 ⟨E37, ⟨r39, r40, rfl, h41, h42⟩⟩
  have X43 := Ext.gr X35 E37
  show wpList _ _ _ _ (fr [(.agg #[(.float .f32 rl), (.float .f32 rh)]), (.pointer (some ⟨b2, 0, none⟩)), (.bool false), (.pointer (some ⟨b24, 0, none⟩)), undef, (.agg #[(.float .f32 rl), (.float .f32 rh)]), (.agg #[(.float .f32 r12), (.float .f32 r13)]), (.agg #[(.float .f32 r19), (.float .f32 r20)]), (.agg #[(.float .f32 rl), (.float .f32 rh)]), (.agg #[(.float .f32 r39), (.float .f32 r40)]), undef, undef, undef, undef, undef]) _
  refine seqd rfl rfl (does_call (args := #[(.agg #[(.float .f32 r39), (.float .f32 r40)])]) cal25 (evs rfl) (c_impl_SizeRange r39 r40 _)) ?_; rintro _ w45 ⟨E44, ⟨r46, r47, rfl, h48, h49⟩⟩
  have X50 := Ext.gr X43 E44
  show wpList _ _ _ _ (fr [(.agg #[(.float .f32 rl), (.float .f32 rh)]), (.pointer (some ⟨b2, 0, none⟩)), (.bool false), (.pointer (some ⟨b24, 0, none⟩)), undef, (.agg #[(.float .f32 rl), (.float .f32 rh)]), (.agg #[(.float .f32 r12), (.float .f32 r13)]), (.agg #[(.float .f32 r19), (.float .f32 r20)]), (.agg #[(.float .f32 rl), (.float .f32 rh)]), (.agg #[(.float .f32 r39), (.float .f32 r40)]), (.agg #[(.float .f32 r46), (.float .f32 r47)]), undef, undef, undef, undef]) _
  refine seqd rfl rfl (does_alloc z41) ?_; rintro _ w55 ⟨b51, rfl, hb52, hB53, E54⟩
  have n56 : b2 < b51 := Nat.lt_of_lt_of_le (Blk.lt ((((((hB4.ext E10).ext E17).ext E27).wr W32 (Nat.ne_of_lt n29)).ext E37).ext E44)) hb52
  have n57 : b24 < b51 := Nat.lt_of_lt_of_le (Blk.lt ((hB33.ext E37).ext E44)) hb52
  have g58 : w.heap.size ≤ b51 := Nat.le_trans (Below.size X50) hb52
  change Blk _ _ [(.float .f32 0), (.float .f32 0)] at hB53
  have X59 := Ext.gr X50 E54
  show wpList _ _ _ _ (fr [(.agg #[(.float .f32 rl), (.float .f32 rh)]), (.pointer (some ⟨b2, 0, none⟩)), (.bool false), (.pointer (some ⟨b24, 0, none⟩)), (.pointer (some ⟨b51, 0, none⟩)), (.agg #[(.float .f32 rl), (.float .f32 rh)]), (.agg #[(.float .f32 r12), (.float .f32 r13)]), (.agg #[(.float .f32 r19), (.float .f32 r20)]), (.agg #[(.float .f32 rl), (.float .f32 rh)]), (.agg #[(.float .f32 r39), (.float .f32 r40)]), (.agg #[(.float .f32 r46), (.float .f32 r47)]), undef, undef, undef, undef]) _
  refine seqn rfl rfl (does_store (n := 2) (cs := [(.float .f32 0), (.float .f32 0)]) (u := (.agg #[(.float .f32 r46), (.float .f32 r47)])) (ev rfl) (ev rfl) Try.sizeOf41 rfl hB53 (Nat.le_of_ble_eq_true rfl) rfl) ?_; rintro _ w62 ⟨rfl, W60, hB61⟩
  change Blk _ _ [(.float .f32 r46), (.float .f32 r47)] at hB61
  have X63 := Below.wr X59 W60 g58
  refine wpList_nil (hK36 _ _ ?_)
  refine wp_seq_k fun K64 hK64 => ?_
  refine wp_seq_k fun K65 hK65 => ?_
  refine wp_region_lit ?_
  refine q_is (l' := [(.agg #[(.float .f32 rl), (.float .f32 rh)]), (.pointer (some ⟨b2, 0, none⟩)), (.bool false), (.pointer (some ⟨b24, 0, none⟩)), (.pointer (some ⟨b51, 0, none⟩)), (.agg #[(.float .f32 rl), (.float .f32 rh)]), (.agg #[(.float .f32 r12), (.float .f32 r13)]), (.agg #[(.float .f32 r19), (.float .f32 r20)]), (.agg #[(.float .f32 rl), (.float .f32 rh)]), (.agg #[(.float .f32 r39), (.float .f32 r40)]), (.agg #[(.float .f32 r46), (.float .f32 r47)]), (.agg #[(.float .f32 r46), (.float .f32 r47)]), undef, undef, undef]) rfl rfl (does_loadAgg (cs := [(.float .f32 r46), (.float .f32 r47)]) (ev rfl) Try.isAgg41 Try.sizeOf41 (Blk.cells hB61) rfl) rfl ?_
  refine q_is (l' := [(.agg #[(.float .f32 rl), (.float .f32 rh)]), (.pointer (some ⟨b2, 0, none⟩)), (.bool false), (.pointer (some ⟨b24, 0, none⟩)), (.pointer (some ⟨b51, 0, none⟩)), (.agg #[(.float .f32 rl), (.float .f32 rh)]), (.agg #[(.float .f32 r12), (.float .f32 r13)]), (.agg #[(.float .f32 r19), (.float .f32 r20)]), (.agg #[(.float .f32 rl), (.float .f32 rh)]), (.agg #[(.float .f32 r39), (.float .f32 r40)]), (.agg #[(.float .f32 r46), (.float .f32 r47)]), (.agg #[(.float .f32 r46), (.float .f32 r47)]), (.agg #[(.float .f32 r19), (.float .f32 r20)]), undef, undef]) rfl rfl (does_loadAgg (cs := [(.float .f32 r19), (.float .f32 r20)]) (ev rfl) Try.isAgg41 Try.sizeOf41 (Blk.cells ((((hB33.ext E37).ext E44).ext E54).wr W60 (Nat.ne_of_lt n57))) rfl) rfl ?_
  refine seqd rfl rfl (does_call (args := #[(.agg #[(.float .f32 r46), (.float .f32 r47)]), (.agg #[(.float .f32 r19), (.float .f32 r20)])]) cal26 (evs rfl) (c_laws_eqRange r46 r47 r19 r20 _)) ?_; rintro _ w67 ⟨E66, rfl⟩
  have X68 := Ext.gr X63 E66
  show wpList _ _ _ _ (fr [(.agg #[(.float .f32 rl), (.float .f32 rh)]), (.pointer (some ⟨b2, 0, none⟩)), (.bool false), (.pointer (some ⟨b24, 0, none⟩)), (.pointer (some ⟨b51, 0, none⟩)), (.agg #[(.float .f32 rl), (.float .f32 rh)]), (.agg #[(.float .f32 r12), (.float .f32 r13)]), (.agg #[(.float .f32 r19), (.float .f32 r20)]), (.agg #[(.float .f32 rl), (.float .f32 rh)]), (.agg #[(.float .f32 r39), (.float .f32 r40)]), (.agg #[(.float .f32 r46), (.float .f32 r47)]), (.agg #[(.float .f32 r46), (.float .f32 r47)]), (.agg #[(.float .f32 r19), (.float .f32 r20)]), (.bool (sameF (fwid (cf .f32 r46)) (fwid (cf .f32 r19)) && sameF (fwid (cf .f32 r47)) (fwid (cf .f32 r20)))), undef]) _
  refine q_is (l' := [(.agg #[(.float .f32 rl), (.float .f32 rh)]), (.pointer (some ⟨b2, 0, none⟩)), (.bool false), (.pointer (some ⟨b24, 0, none⟩)), (.pointer (some ⟨b51, 0, none⟩)), (.agg #[(.float .f32 rl), (.float .f32 rh)]), (.agg #[(.float .f32 r12), (.float .f32 r13)]), (.agg #[(.float .f32 r19), (.float .f32 r20)]), (.agg #[(.float .f32 rl), (.float .f32 rh)]), (.agg #[(.float .f32 r39), (.float .f32 r40)]), (.agg #[(.float .f32 r46), (.float .f32 r47)]), (.agg #[(.float .f32 r46), (.float .f32 r47)]), (.agg #[(.float .f32 r19), (.float .f32 r20)]), (.bool (sameF (fwid (cf .f32 r46)) (fwid (cf .f32 r19)) && sameF (fwid (cf .f32 r47)) (fwid (cf .f32 r20)))), (.bool (!(sameF (fwid (cf .f32 r46)) (fwid (cf .f32 r19)) && sameF (fwid (cf .f32 r47)) (fwid (cf .f32 r20)))))]) rfl rfl (does_not (ev rfl)) rfl ?_
  refine wpList_nil (hK65 _ _ ?_)
  refine wp_cond_split (t := !(sameF (fwid (cf .f32 r46)) (fwid (cf .f32 r19)) && sameF (fwid (cf .f32 r47)) (fwid (cf .f32 r20)))) (ev rfl) (fun c69 => ?_) (fun c69 => ?_)
  · rw [Bool.not_eq_true'] at c69
    have c69' := c69
    refine wp_seq_k fun K70 hK70 => ?_
    refine wp_region_lit ?_
    refine q_is (l' := [(.agg #[(.float .f32 rl), (.float .f32 rh)]), (.pointer (some ⟨b2, 0, none⟩)), (.bool false), (.pointer (some ⟨b24, 0, none⟩)), (.pointer (some ⟨b51, 0, none⟩)), (.agg #[(.float .f32 rl), (.float .f32 rh)]), (.agg #[(.float .f32 r12), (.float .f32 r13)]), (.agg #[(.float .f32 r19), (.float .f32 r20)]), (.agg #[(.float .f32 rl), (.float .f32 rh)]), (.agg #[(.float .f32 r39), (.float .f32 r40)]), (.agg #[(.float .f32 r46), (.float .f32 r47)]), (.agg #[(.float .f32 r46), (.float .f32 r47)]), (.agg #[(.float .f32 r19), (.float .f32 r20)]), (.bool (sameF (fwid (cf .f32 r46)) (fwid (cf .f32 r19)) && sameF (fwid (cf .f32 r47)) (fwid (cf .f32 r20)))), (.bool (!(sameF (fwid (cf .f32 r46)) (fwid (cf .f32 r19)) && sameF (fwid (cf .f32 r47)) (fwid (cf .f32 r20)))))]) rfl rfl (does_assign (u := (.bool false)) (ev rfl)) rfl ?_
    refine wpList_nil (hK70 _ _ ?_)
    refine wp_ret ?_
    dsimp only [Exit.then, Exit.inBlock]
    refine ret_val (v := (.bool false)) (res_T rfl (slot rfl)) X68 ?_
    try simp only [h14, h15, h21, h22, h41, h42, h48, h49] at c69
    have x71 : true = false := by first | rfl | (simp only [sameF_self, h14, h15, h21, h22, h41, h42, h48, h49, c69]; done) | (simp [sameF_self, h14, h15, h21, h22, h41, h42, h48, h49, c69]; done) | (revert c69; simp +contextual [sameF_self, h14, h15, h21, h22, h41, h42, h48, h49]; done)
    exact (by first | rfl | rw [x71])
  rw [Bool.not_eq_false'] at c69
  have c69' := c69
  refine wp_skip (hK64 _ _ ?_)
  refine wp_seq_k fun K72 hK72 => ?_
  refine wp_region_lit ?_
  refine q_is (l' := [(.agg #[(.float .f32 rl), (.float .f32 rh)]), (.pointer (some ⟨b2, 0, none⟩)), (.bool true), (.pointer (some ⟨b24, 0, none⟩)), (.pointer (some ⟨b51, 0, none⟩)), (.agg #[(.float .f32 rl), (.float .f32 rh)]), (.agg #[(.float .f32 r12), (.float .f32 r13)]), (.agg #[(.float .f32 r19), (.float .f32 r20)]), (.agg #[(.float .f32 rl), (.float .f32 rh)]), (.agg #[(.float .f32 r39), (.float .f32 r40)]), (.agg #[(.float .f32 r46), (.float .f32 r47)]), (.agg #[(.float .f32 r46), (.float .f32 r47)]), (.agg #[(.float .f32 r19), (.float .f32 r20)]), (.bool (sameF (fwid (cf .f32 r46)) (fwid (cf .f32 r19)) && sameF (fwid (cf .f32 r47)) (fwid (cf .f32 r20)))), (.bool (!(sameF (fwid (cf .f32 r46)) (fwid (cf .f32 r19)) && sameF (fwid (cf .f32 r47)) (fwid (cf .f32 r20)))))]) rfl rfl (does_assign (u := (.bool true)) (ev rfl)) rfl ?_
  refine wpList_nil (hK72 _ _ ?_)
  refine wp_ret ?_
  refine ret_val (v := (.bool true)) (res_T rfl (slot rfl)) X68 ?_
  try simp only [h14, h15, h21, h22, h41, h42, h48, h49] at c69
  exact rfl

end Go.Proofs.Ythmejogjmjjmgaa
