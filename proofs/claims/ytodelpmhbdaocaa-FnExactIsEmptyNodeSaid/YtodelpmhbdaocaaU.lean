/- contracts of functions, each walked once -/
import Derived.Test.YtodelpmhbdaocaaP
import Derived.Test.YtodelpmhbdaocaaP2
import Derived.Test.YtodelpmhbdaocaaEmp
namespace Go.Proofs.Ytodelpmhbdaocaa
open Go Go.RowKit
set_option maxRecDepth 100000
set_option maxHeartbeats 3200000
set_option linter.unusedVariables false
set_option linter.unusedSimpArgs false

/- spec.l02Count -/
theorem c_spec_l02Count (kind : Int) (w : World) : Gives Try.prog 33 #[(Iv kind)] w (fun v w' => v = (Iv (rlNum kind))) := by
  refine enter [(Iv kind), Ud, Ud, Ud, Ud, Ud, Ud, Ud, Ud, Ud, Ud, Ud, Ud, Ud, Ud, Ud, Ud, Ud, Ud, Ud, Ud] Try.func33 rfl Try.ntmps33 rfl ?_
  refine wp_seq_k fun K1 hK1 => ?_
  refine wp_region_lit ?_
  refine q_is (l' := [(Iv kind), Ud, (Iv 0), Ud, Ud, Ud, Ud, Ud, Ud, Ud, Ud, Ud, Ud, Ud, Ud, Ud, Ud, Ud, Ud, Ud, Ud]) rfl rfl (does_assign (u := (Iv 0)) (ev rfl)) rfl ?_
  refine wpList_nil (hK1 _ _ ?_)
  refine wp_seq_k fun K2 hK2 => ?_
  refine wp_seq_k fun K3 hK3 => ?_
  refine wp_region_lit ?_
  refine q_is (l' := [(Iv kind), Ud, (Iv 0), (Iv kind), Ud, Ud, Ud, Ud, Ud, Ud, Ud, Ud, Ud, Ud, Ud, Ud, Ud, Ud, Ud, Ud, Ud]) rfl rfl (does_move (u := (Iv kind)) (ev rfl)) rfl ?_
  refine wpList_nil (hK3 _ _ ?_)
  refine wp_block ?_
  refine wp_seq_k fun K4 hK4 => ?_
  refine wp_seq_k fun K5 hK5 => ?_
  refine wp_region_lit ?_
  refine q_is (l' := [(Iv kind), Ud, (Iv 0), (Iv kind), Ud, (Bo (icmp .eql kind 0)), Ud, Ud, Ud, Ud, Ud, Ud, Ud, Ud, Ud, Ud, Ud, Ud, Ud, Ud, Ud]) rfl rfl (does_icmp (p := kind) (q := 0) (.inl rfl) (ev rfl) (ev rfl)) rfl ?_
  refine q_is (l' := [(Iv kind), Ud, (Iv 0), (Iv kind), (Bo (icmp .eql kind 0)), (Bo (icmp .eql kind 0)), Ud, Ud, Ud, Ud, Ud, Ud, Ud, Ud, Ud, Ud, Ud, Ud, Ud, Ud, Ud]) rfl rfl (does_assign (u := (Bo (icmp .eql kind 0))) (ev rfl)) rfl ?_
  refine wpList_nil (hK5 _ _ ?_)
  refine wp_cond_split (t := icmp .eql kind 0) (ev rfl) (fun c6 => ?_) (fun c6 => ?_)
  · have c6' := c6
    (try simp only [icmp, Bool.and_eq_true, Bool.or_eq_true, Bool.and_eq_false_iff, Bool.or_eq_false_iff, Bool.not_eq_true', Bool.not_eq_false', decide_eq_true_eq, decide_eq_false_iff_not, beq_iff_eq, bne_iff_ne, beq_eq_false_iff_ne, bne_eq_false_iff_eq] at c6')
    refine wp_skip (hK4 _ _ ?_)
    refine wp_cond_true ((ev (rfl : evl _ _ = .bool (icmp .eql kind 0))).trans (congrArg Value.bool c6)) ?_
    refine wp_seq_k fun K7 hK7 => ?_
    refine wp_region_lit ?_
    refine q_is (l' := [(Iv kind), Ud, (Iv 1), (Iv kind), (Bo (icmp .eql kind 0)), (Bo (icmp .eql kind 0)), Ud, Ud, Ud, Ud, Ud, Ud, Ud, Ud, Ud, Ud, Ud, Ud, Ud, Ud, Ud]) rfl rfl (does_assign (u := (Iv 1)) (ev rfl)) rfl ?_
    refine wpList_nil (hK7 _ _ ?_)
    refine wp_ret ?_
    dsimp only [Exit.then, Exit.inBlock]
    refine ret_val (v := (Iv 1)) (res_T rfl (slot rfl)) (Ext.refl w) ?_
    have x8 : (rlNum kind : Int) = 1 := by first | (simp_all [rlNum, icmp]; done) | (simp [rlNum]; omega)
    exact (by first | rfl | rw [x8])
  have c6' := c6
  (try simp only [icmp, Bool.and_eq_true, Bool.or_eq_true, Bool.and_eq_false_iff, Bool.or_eq_false_iff, Bool.not_eq_true', Bool.not_eq_false', decide_eq_true_eq, decide_eq_false_iff_not, beq_iff_eq, bne_iff_ne, beq_eq_false_iff_ne, bne_eq_false_iff_eq] at c6')
  refine wp_seq_k fun K9 hK9 => ?_
  refine wp_region_lit ?_
  refine q_is (l' := [(Iv kind), Ud, (Iv 0), (Iv kind), (Bo (icmp .eql kind 0)), (Bo (icmp .eql kind 0)), (Bo (icmp .eql kind 8)), Ud, Ud, Ud, Ud, Ud, Ud, Ud, Ud, Ud, Ud, Ud, Ud, Ud, Ud]) rfl rfl (does_icmp (p := kind) (q := 8) (.inl rfl) (ev rfl) (ev rfl)) rfl ?_
  refine q_is (l' := [(Iv kind), Ud, (Iv 0), (Iv kind), (Bo (icmp .eql kind 8)), (Bo (icmp .eql kind 0)), (Bo (icmp .eql kind 8)), Ud, Ud, Ud, Ud, Ud, Ud, Ud, Ud, Ud, Ud, Ud, Ud, Ud, Ud]) rfl rfl (does_assign (u := (Bo (icmp .eql kind 8))) (ev rfl)) rfl ?_
  refine wpList_nil (hK9 _ _ ?_)
  refine wp_cond_split (t := icmp .eql kind 8) (ev rfl) (fun c10 => ?_) (fun c10 => ?_)
  · have c10' := c10
    (try simp only [icmp, Bool.and_eq_true, Bool.or_eq_true, Bool.and_eq_false_iff, Bool.or_eq_false_iff, Bool.not_eq_true', Bool.not_eq_false', decide_eq_true_eq, decide_eq_false_iff_not, beq_iff_eq, bne_iff_ne, beq_eq_false_iff_ne, bne_eq_false_iff_eq] at c10')
    refine wp_skip (hK4 _ _ ?_)
    refine wp_cond_true ((ev (rfl : evl _ _ = .bool (icmp .eql kind 8))).trans (congrArg Value.bool c10)) ?_
    refine wp_seq_k fun K11 hK11 => ?_
    refine wp_region_lit ?_
    refine q_is (l' := [(Iv kind), Ud, (Iv 1), (Iv kind), (Bo (icmp .eql kind 8)), (Bo (icmp .eql kind 0)), (Bo (icmp .eql kind 8)), Ud, Ud, Ud, Ud, Ud, Ud, Ud, Ud, Ud, Ud, Ud, Ud, Ud, Ud]) rfl rfl (does_assign (u := (Iv 1)) (ev rfl)) rfl ?_
    refine wpList_nil (hK11 _ _ ?_)
    refine wp_ret ?_
    dsimp only [Exit.then, Exit.inBlock]
    refine ret_val (v := (Iv 1)) (res_T rfl (slot rfl)) (Ext.refl w) ?_
    have x12 : (rlNum kind : Int) = 1 := by first | (simp_all [rlNum, icmp]; done) | (simp [rlNum]; omega)
    exact (by first | rfl | rw [x12])
  have c10' := c10
  (try simp only [icmp, Bool.and_eq_true, Bool.or_eq_true, Bool.and_eq_false_iff, Bool.or_eq_false_iff, Bool.not_eq_true', Bool.not_eq_false', decide_eq_true_eq, decide_eq_false_iff_not, beq_iff_eq, bne_iff_ne, beq_eq_false_iff_ne, bne_eq_false_iff_eq] at c10')
  refine wp_seq_k fun K13 hK13 => ?_
  refine wp_region_lit ?_
  refine q_is (l' := [(Iv kind), Ud, (Iv 0), (Iv kind), (Bo (icmp .eql kind 8)), (Bo (icmp .eql kind 0)), (Bo (icmp .eql kind 8)), (Bo (icmp .eql kind 10)), Ud, Ud, Ud, Ud, Ud, Ud, Ud, Ud, Ud, Ud, Ud, Ud, Ud]) rfl rfl (does_icmp (p := kind) (q := 10) (.inl rfl) (ev rfl) (ev rfl)) rfl ?_
  refine q_is (l' := [(Iv kind), Ud, (Iv 0), (Iv kind), (Bo (icmp .eql kind 10)), (Bo (icmp .eql kind 0)), (Bo (icmp .eql kind 8)), (Bo (icmp .eql kind 10)), Ud, Ud, Ud, Ud, Ud, Ud, Ud, Ud, Ud, Ud, Ud, Ud, Ud]) rfl rfl (does_assign (u := (Bo (icmp .eql kind 10))) (ev rfl)) rfl ?_
  refine wpList_nil (hK13 _ _ ?_)
  refine wp_cond_split (t := icmp .eql kind 10) (ev rfl) (fun c14 => ?_) (fun c14 => ?_)
  · have c14' := c14
    (try simp only [icmp, Bool.and_eq_true, Bool.or_eq_true, Bool.and_eq_false_iff, Bool.or_eq_false_iff, Bool.not_eq_true', Bool.not_eq_false', decide_eq_true_eq, decide_eq_false_iff_not, beq_iff_eq, bne_iff_ne, beq_eq_false_iff_ne, bne_eq_false_iff_eq] at c14')
    refine wp_skip (hK4 _ _ ?_)
    refine wp_cond_true ((ev (rfl : evl _ _ = .bool (icmp .eql kind 10))).trans (congrArg Value.bool c14)) ?_
    refine wp_seq_k fun K15 hK15 => ?_
    refine wp_region_lit ?_
    refine q_is (l' := [(Iv kind), Ud, (Iv 1), (Iv kind), (Bo (icmp .eql kind 10)), (Bo (icmp .eql kind 0)), (Bo (icmp .eql kind 8)), (Bo (icmp .eql kind 10)), Ud, Ud, Ud, Ud, Ud, Ud, Ud, Ud, Ud, Ud, Ud, Ud, Ud]) rfl rfl (does_assign (u := (Iv 1)) (ev rfl)) rfl ?_
    refine wpList_nil (hK15 _ _ ?_)
    refine wp_ret ?_
    dsimp only [Exit.then, Exit.inBlock]
    refine ret_val (v := (Iv 1)) (res_T rfl (slot rfl)) (Ext.refl w) ?_
    have x16 : (rlNum kind : Int) = 1 := by first | (simp_all [rlNum, icmp]; done) | (simp [rlNum]; omega)
    exact (by first | rfl | rw [x16])
  have c14' := c14
  (try simp only [icmp, Bool.and_eq_true, Bool.or_eq_true, Bool.and_eq_false_iff, Bool.or_eq_false_iff, Bool.not_eq_true', Bool.not_eq_false', decide_eq_true_eq, decide_eq_false_iff_not, beq_iff_eq, bne_iff_ne, beq_eq_false_iff_ne, bne_eq_false_iff_eq] at c14')
  refine wp_seq_k fun K17 hK17 => ?_
  refine wp_region_lit ?_
  refine q_is (l' := [(Iv kind), Ud, (Iv 0), (Iv kind), (Bo (icmp .eql kind 10)), (Bo (icmp .eql kind 0)), (Bo (icmp .eql kind 8)), (Bo (icmp .eql kind 10)), (Bo (icmp .eql kind 12)), Ud, Ud, Ud, Ud, Ud, Ud, Ud, Ud, Ud, Ud, Ud, Ud]) rfl rfl (does_icmp (p := kind) (q := 12) (.inl rfl) (ev rfl) (ev rfl)) rfl ?_
  refine q_is (l' := [(Iv kind), Ud, (Iv 0), (Iv kind), (Bo (icmp .eql kind 12)), (Bo (icmp .eql kind 0)), (Bo (icmp .eql kind 8)), (Bo (icmp .eql kind 10)), (Bo (icmp .eql kind 12)), Ud, Ud, Ud, Ud, Ud, Ud, Ud, Ud, Ud, Ud, Ud, Ud]) rfl rfl (does_assign (u := (Bo (icmp .eql kind 12))) (ev rfl)) rfl ?_
  refine wpList_nil (hK17 _ _ ?_)
  refine wp_cond_split (t := icmp .eql kind 12) (ev rfl) (fun c18 => ?_) (fun c18 => ?_)
  · have c18' := c18
    (try simp only [icmp, Bool.and_eq_true, Bool.or_eq_true, Bool.and_eq_false_iff, Bool.or_eq_false_iff, Bool.not_eq_true', Bool.not_eq_false', decide_eq_true_eq, decide_eq_false_iff_not, beq_iff_eq, bne_iff_ne, beq_eq_false_iff_ne, bne_eq_false_iff_eq] at c18')
    refine wp_skip (hK4 _ _ ?_)
    refine wp_cond_true ((ev (rfl : evl _ _ = .bool (icmp .eql kind 12))).trans (congrArg Value.bool c18)) ?_
    refine wp_seq_k fun K19 hK19 => ?_
    refine wp_region_lit ?_
    refine q_is (l' := [(Iv kind), Ud, (Iv 1), (Iv kind), (Bo (icmp .eql kind 12)), (Bo (icmp .eql kind 0)), (Bo (icmp .eql kind 8)), (Bo (icmp .eql kind 10)), (Bo (icmp .eql kind 12)), Ud, Ud, Ud, Ud, Ud, Ud, Ud, Ud, Ud, Ud, Ud, Ud]) rfl rfl (does_assign (u := (Iv 1)) (ev rfl)) rfl ?_
    refine wpList_nil (hK19 _ _ ?_)
    refine wp_ret ?_
    dsimp only [Exit.then, Exit.inBlock]
    refine ret_val (v := (Iv 1)) (res_T rfl (slot rfl)) (Ext.refl w) ?_
    have x20 : (rlNum kind : Int) = 1 := by first | (simp_all [rlNum, icmp]; done) | (simp [rlNum]; omega)
    exact (by first | rfl | rw [x20])
  have c18' := c18
  (try simp only [icmp, Bool.and_eq_true, Bool.or_eq_true, Bool.and_eq_false_iff, Bool.or_eq_false_iff, Bool.not_eq_true', Bool.not_eq_false', decide_eq_true_eq, decide_eq_false_iff_not, beq_iff_eq, bne_iff_ne, beq_eq_false_iff_ne, bne_eq_false_iff_eq] at c18')
  refine wp_seq_k fun K21 hK21 => ?_
  refine wp_region_lit ?_
  refine q_is (l' := [(Iv kind), Ud, (Iv 0), (Iv kind), (Bo (icmp .eql kind 12)), (Bo (icmp .eql kind 0)), (Bo (icmp .eql kind 8)), (Bo (icmp .eql kind 10)), (Bo (icmp .eql kind 12)), (Bo (icmp .eql kind 14)), Ud, Ud, Ud, Ud, Ud, Ud, Ud, Ud, Ud, Ud, Ud]) rfl rfl (does_icmp (p := kind) (q := 14) (.inl rfl) (ev rfl) (ev rfl)) rfl ?_
  refine q_is (l' := [(Iv kind), Ud, (Iv 0), (Iv kind), (Bo (icmp .eql kind 14)), (Bo (icmp .eql kind 0)), (Bo (icmp .eql kind 8)), (Bo (icmp .eql kind 10)), (Bo (icmp .eql kind 12)), (Bo (icmp .eql kind 14)), Ud, Ud, Ud, Ud, Ud, Ud, Ud, Ud, Ud, Ud, Ud]) rfl rfl (does_assign (u := (Bo (icmp .eql kind 14))) (ev rfl)) rfl ?_
  refine wpList_nil (hK21 _ _ ?_)
  refine wp_cond_split (t := icmp .eql kind 14) (ev rfl) (fun c22 => ?_) (fun c22 => ?_)
  · have c22' := c22
    (try simp only [icmp, Bool.and_eq_true, Bool.or_eq_true, Bool.and_eq_false_iff, Bool.or_eq_false_iff, Bool.not_eq_true', Bool.not_eq_false', decide_eq_true_eq, decide_eq_false_iff_not, beq_iff_eq, bne_iff_ne, beq_eq_false_iff_ne, bne_eq_false_iff_eq] at c22')
    refine wp_skip (hK4 _ _ ?_)
    refine wp_cond_true ((ev (rfl : evl _ _ = .bool (icmp .eql kind 14))).trans (congrArg Value.bool c22)) ?_
    refine wp_seq_k fun K23 hK23 => ?_
    refine wp_region_lit ?_
    refine q_is (l' := [(Iv kind), Ud, (Iv 1), (Iv kind), (Bo (icmp .eql kind 14)), (Bo (icmp .eql kind 0)), (Bo (icmp .eql kind 8)), (Bo (icmp .eql kind 10)), (Bo (icmp .eql kind 12)), (Bo (icmp .eql kind 14)), Ud, Ud, Ud, Ud, Ud, Ud, Ud, Ud, Ud, Ud, Ud]) rfl rfl (does_assign (u := (Iv 1)) (ev rfl)) rfl ?_
    refine wpList_nil (hK23 _ _ ?_)
    refine wp_ret ?_
    dsimp only [Exit.then, Exit.inBlock]
    refine ret_val (v := (Iv 1)) (res_T rfl (slot rfl)) (Ext.refl w) ?_
    have x24 : (rlNum kind : Int) = 1 := by first | (simp_all [rlNum, icmp]; done) | (simp [rlNum]; omega)
    exact (by first | rfl | rw [x24])
  have c22' := c22
  (try simp only [icmp, Bool.and_eq_true, Bool.or_eq_true, Bool.and_eq_false_iff, Bool.or_eq_false_iff, Bool.not_eq_true', Bool.not_eq_false', decide_eq_true_eq, decide_eq_false_iff_not, beq_iff_eq, bne_iff_ne, beq_eq_false_iff_ne, bne_eq_false_iff_eq] at c22')
  refine wp_seq_k fun K25 hK25 => ?_
  refine wp_region_lit ?_
  refine q_is (l' := [(Iv kind), Ud, (Iv 0), (Iv kind), (Bo (icmp .eql kind 14)), (Bo (icmp .eql kind 0)), (Bo (icmp .eql kind 8)), (Bo (icmp .eql kind 10)), (Bo (icmp .eql kind 12)), (Bo (icmp .eql kind 14)), (Bo (icmp .eql kind 15)), Ud, Ud, Ud, Ud, Ud, Ud, Ud, Ud, Ud, Ud]) rfl rfl (does_icmp (p := kind) (q := 15) (.inl rfl) (ev rfl) (ev rfl)) rfl ?_
  refine q_is (l' := [(Iv kind), Ud, (Iv 0), (Iv kind), (Bo (icmp .eql kind 15)), (Bo (icmp .eql kind 0)), (Bo (icmp .eql kind 8)), (Bo (icmp .eql kind 10)), (Bo (icmp .eql kind 12)), (Bo (icmp .eql kind 14)), (Bo (icmp .eql kind 15)), Ud, Ud, Ud, Ud, Ud, Ud, Ud, Ud, Ud, Ud]) rfl rfl (does_assign (u := (Bo (icmp .eql kind 15))) (ev rfl)) rfl ?_
  refine wpList_nil (hK25 _ _ ?_)
  refine wp_cond_split (t := icmp .eql kind 15) (ev rfl) (fun c26 => ?_) (fun c26 => ?_)
  · have c26' := c26
    (try simp only [icmp, Bool.and_eq_true, Bool.or_eq_true, Bool.and_eq_false_iff, Bool.or_eq_false_iff, Bool.not_eq_true', Bool.not_eq_false', decide_eq_true_eq, decide_eq_false_iff_not, beq_iff_eq, bne_iff_ne, beq_eq_false_iff_ne, bne_eq_false_iff_eq] at c26')
    refine wp_skip (hK4 _ _ ?_)
    refine wp_cond_true ((ev (rfl : evl _ _ = .bool (icmp .eql kind 15))).trans (congrArg Value.bool c26)) ?_
    refine wp_seq_k fun K27 hK27 => ?_
    refine wp_region_lit ?_
    refine q_is (l' := [(Iv kind), Ud, (Iv 1), (Iv kind), (Bo (icmp .eql kind 15)), (Bo (icmp .eql kind 0)), (Bo (icmp .eql kind 8)), (Bo (icmp .eql kind 10)), (Bo (icmp .eql kind 12)), (Bo (icmp .eql kind 14)), (Bo (icmp .eql kind 15)), Ud, Ud, Ud, Ud, Ud, Ud, Ud, Ud, Ud, Ud]) rfl rfl (does_assign (u := (Iv 1)) (ev rfl)) rfl ?_
    refine wpList_nil (hK27 _ _ ?_)
    refine wp_ret ?_
    dsimp only [Exit.then, Exit.inBlock]
    refine ret_val (v := (Iv 1)) (res_T rfl (slot rfl)) (Ext.refl w) ?_
    have x28 : (rlNum kind : Int) = 1 := by first | (simp_all [rlNum, icmp]; done) | (simp [rlNum]; omega)
    exact (by first | rfl | rw [x28])
  have c26' := c26
  (try simp only [icmp, Bool.and_eq_true, Bool.or_eq_true, Bool.and_eq_false_iff, Bool.or_eq_false_iff, Bool.not_eq_true', Bool.not_eq_false', decide_eq_true_eq, decide_eq_false_iff_not, beq_iff_eq, bne_iff_ne, beq_eq_false_iff_ne, bne_eq_false_iff_eq] at c26')
  refine wp_region_lit ?_
  refine q_is (l' := [(Iv kind), Ud, (Iv 0), (Iv kind), (Bo (icmp .eql kind 15)), (Bo (icmp .eql kind 0)), (Bo (icmp .eql kind 8)), (Bo (icmp .eql kind 10)), (Bo (icmp .eql kind 12)), (Bo (icmp .eql kind 14)), (Bo (icmp .eql kind 15)), (Bo (icmp .eql kind 16)), Ud, Ud, Ud, Ud, Ud, Ud, Ud, Ud, Ud]) rfl rfl (does_icmp (p := kind) (q := 16) (.inl rfl) (ev rfl) (ev rfl)) rfl ?_
  refine q_is (l' := [(Iv kind), Ud, (Iv 0), (Iv kind), (Bo (icmp .eql kind 16)), (Bo (icmp .eql kind 0)), (Bo (icmp .eql kind 8)), (Bo (icmp .eql kind 10)), (Bo (icmp .eql kind 12)), (Bo (icmp .eql kind 14)), (Bo (icmp .eql kind 15)), (Bo (icmp .eql kind 16)), Ud, Ud, Ud, Ud, Ud, Ud, Ud, Ud, Ud]) rfl rfl (does_assign (u := (Bo (icmp .eql kind 16))) (ev rfl)) rfl ?_
  refine wpList_nil (hK4 _ _ ?_)
  refine wp_cond_split (t := icmp .eql kind 16) (ev rfl) (fun c29 => ?_) (fun c29 => ?_)
  · have c29' := c29
    (try simp only [icmp, Bool.and_eq_true, Bool.or_eq_true, Bool.and_eq_false_iff, Bool.or_eq_false_iff, Bool.not_eq_true', Bool.not_eq_false', decide_eq_true_eq, decide_eq_false_iff_not, beq_iff_eq, bne_iff_ne, beq_eq_false_iff_ne, bne_eq_false_iff_eq] at c29')
    refine wp_seq_k fun K30 hK30 => ?_
    refine wp_region_lit ?_
    refine q_is (l' := [(Iv kind), Ud, (Iv 1), (Iv kind), (Bo (icmp .eql kind 16)), (Bo (icmp .eql kind 0)), (Bo (icmp .eql kind 8)), (Bo (icmp .eql kind 10)), (Bo (icmp .eql kind 12)), (Bo (icmp .eql kind 14)), (Bo (icmp .eql kind 15)), (Bo (icmp .eql kind 16)), Ud, Ud, Ud, Ud, Ud, Ud, Ud, Ud, Ud]) rfl rfl (does_assign (u := (Iv 1)) (ev rfl)) rfl ?_
    refine wpList_nil (hK30 _ _ ?_)
    refine wp_ret ?_
    dsimp only [Exit.then, Exit.inBlock]
    refine ret_val (v := (Iv 1)) (res_T rfl (slot rfl)) (Ext.refl w) ?_
    have x31 : (rlNum kind : Int) = 1 := by first | (simp_all [rlNum, icmp]; done) | (simp [rlNum]; omega)
    exact (by first | rfl | rw [x31])
  have c29' := c29
  (try simp only [icmp, Bool.and_eq_true, Bool.or_eq_true, Bool.and_eq_false_iff, Bool.or_eq_false_iff, Bool.not_eq_true', Bool.not_eq_false', decide_eq_true_eq, decide_eq_false_iff_not, beq_iff_eq, bne_iff_ne, beq_eq_false_iff_ne, bne_eq_false_iff_eq] at c29')
  refine wp_seq_k fun K32 hK32 => ?_
  refine wp_seq_k fun K33 hK33 => ?_
  refine wp_region_lit ?_
  refine q_is (l' := [(Iv kind), Ud, (Iv 0), (Iv kind), (Bo (icmp .eql kind 16)), (Bo (icmp .eql kind 0)), (Bo (icmp .eql kind 8)), (Bo (icmp .eql kind 10)), (Bo (icmp .eql kind 12)), (Bo (icmp .eql kind 14)), (Bo (icmp .eql kind 15)), (Bo (icmp .eql kind 16)), Ud, (Bo (icmp .eql kind 2)), Ud, Ud, Ud, Ud, Ud, Ud, Ud]) rfl rfl (does_icmp (p := kind) (q := 2) (.inl rfl) (ev rfl) (ev rfl)) rfl ?_
  refine q_is (l' := [(Iv kind), Ud, (Iv 0), (Iv kind), (Bo (icmp .eql kind 16)), (Bo (icmp .eql kind 0)), (Bo (icmp .eql kind 8)), (Bo (icmp .eql kind 10)), (Bo (icmp .eql kind 12)), (Bo (icmp .eql kind 14)), (Bo (icmp .eql kind 15)), (Bo (icmp .eql kind 16)), (Bo (icmp .eql kind 2)), (Bo (icmp .eql kind 2)), Ud, Ud, Ud, Ud, Ud, Ud, Ud]) rfl rfl (does_assign (u := (Bo (icmp .eql kind 2))) (ev rfl)) rfl ?_
  refine wpList_nil (hK33 _ _ ?_)
  refine wp_cond_split (t := icmp .eql kind 2) (ev rfl) (fun c34 => ?_) (fun c34 => ?_)
  · have c34' := c34
    (try simp only [icmp, Bool.and_eq_true, Bool.or_eq_true, Bool.and_eq_false_iff, Bool.or_eq_false_iff, Bool.not_eq_true', Bool.not_eq_false', decide_eq_true_eq, decide_eq_false_iff_not, beq_iff_eq, bne_iff_ne, beq_eq_false_iff_ne, bne_eq_false_iff_eq] at c34')
    refine wp_skip (hK32 _ _ ?_)
    refine wp_cond_true ((ev (rfl : evl _ _ = .bool (icmp .eql kind 2))).trans (congrArg Value.bool c34)) ?_
    refine wp_seq_k fun K35 hK35 => ?_
    refine wp_region_lit ?_
    refine q_is (l' := [(Iv kind), Ud, (Iv 2), (Iv kind), (Bo (icmp .eql kind 16)), (Bo (icmp .eql kind 0)), (Bo (icmp .eql kind 8)), (Bo (icmp .eql kind 10)), (Bo (icmp .eql kind 12)), (Bo (icmp .eql kind 14)), (Bo (icmp .eql kind 15)), (Bo (icmp .eql kind 16)), (Bo (icmp .eql kind 2)), (Bo (icmp .eql kind 2)), Ud, Ud, Ud, Ud, Ud, Ud, Ud]) rfl rfl (does_assign (u := (Iv 2)) (ev rfl)) rfl ?_
    refine wpList_nil (hK35 _ _ ?_)
    refine wp_ret ?_
    dsimp only [Exit.then, Exit.inBlock]
    refine ret_val (v := (Iv 2)) (res_T rfl (slot rfl)) (Ext.refl w) ?_
    have x36 : (rlNum kind : Int) = 2 := by first | (simp_all [rlNum, icmp]; done) | (simp [rlNum]; omega)
    exact (by first | rfl | rw [x36])
  have c34' := c34
  (try simp only [icmp, Bool.and_eq_true, Bool.or_eq_true, Bool.and_eq_false_iff, Bool.or_eq_false_iff, Bool.not_eq_true', Bool.not_eq_false', decide_eq_true_eq, decide_eq_false_iff_not, beq_iff_eq, bne_iff_ne, beq_eq_false_iff_ne, bne_eq_false_iff_eq] at c34')
  refine wp_region_lit ?_
  refine q_is (l' := [(Iv kind), Ud, (Iv 0), (Iv kind), (Bo (icmp .eql kind 16)), (Bo (icmp .eql kind 0)), (Bo (icmp .eql kind 8)), (Bo (icmp .eql kind 10)), (Bo (icmp .eql kind 12)), (Bo (icmp .eql kind 14)), (Bo (icmp .eql kind 15)), (Bo (icmp .eql kind 16)), (Bo (icmp .eql kind 2)), (Bo (icmp .eql kind 2)), (Bo (icmp .eql kind 3)), Ud, Ud, Ud, Ud, Ud, Ud]) rfl rfl (does_icmp (p := kind) (q := 3) (.inl rfl) (ev rfl) (ev rfl)) rfl ?_
  refine q_is (l' := [(Iv kind), Ud, (Iv 0), (Iv kind), (Bo (icmp .eql kind 16)), (Bo (icmp .eql kind 0)), (Bo (icmp .eql kind 8)), (Bo (icmp .eql kind 10)), (Bo (icmp .eql kind 12)), (Bo (icmp .eql kind 14)), (Bo (icmp .eql kind 15)), (Bo (icmp .eql kind 16)), (Bo (icmp .eql kind 3)), (Bo (icmp .eql kind 2)), (Bo (icmp .eql kind 3)), Ud, Ud, Ud, Ud, Ud, Ud]) rfl rfl (does_assign (u := (Bo (icmp .eql kind 3))) (ev rfl)) rfl ?_
  refine wpList_nil (hK32 _ _ ?_)
  refine wp_cond_split (t := icmp .eql kind 3) (ev rfl) (fun c37 => ?_) (fun c37 => ?_)
  · have c37' := c37
    (try simp only [icmp, Bool.and_eq_true, Bool.or_eq_true, Bool.and_eq_false_iff, Bool.or_eq_false_iff, Bool.not_eq_true', Bool.not_eq_false', decide_eq_true_eq, decide_eq_false_iff_not, beq_iff_eq, bne_iff_ne, beq_eq_false_iff_ne, bne_eq_false_iff_eq] at c37')
    refine wp_seq_k fun K38 hK38 => ?_
    refine wp_region_lit ?_
    refine q_is (l' := [(Iv kind), Ud, (Iv 2), (Iv kind), (Bo (icmp .eql kind 16)), (Bo (icmp .eql kind 0)), (Bo (icmp .eql kind 8)), (Bo (icmp .eql kind 10)), (Bo (icmp .eql kind 12)), (Bo (icmp .eql kind 14)), (Bo (icmp .eql kind 15)), (Bo (icmp .eql kind 16)), (Bo (icmp .eql kind 3)), (Bo (icmp .eql kind 2)), (Bo (icmp .eql kind 3)), Ud, Ud, Ud, Ud, Ud, Ud]) rfl rfl (does_assign (u := (Iv 2)) (ev rfl)) rfl ?_
    refine wpList_nil (hK38 _ _ ?_)
    refine wp_ret ?_
    dsimp only [Exit.then, Exit.inBlock]
    refine ret_val (v := (Iv 2)) (res_T rfl (slot rfl)) (Ext.refl w) ?_
    have x39 : (rlNum kind : Int) = 2 := by first | (simp_all [rlNum, icmp]; done) | (simp [rlNum]; omega)
    exact (by first | rfl | rw [x39])
  have c37' := c37
  (try simp only [icmp, Bool.and_eq_true, Bool.or_eq_true, Bool.and_eq_false_iff, Bool.or_eq_false_iff, Bool.not_eq_true', Bool.not_eq_false', decide_eq_true_eq, decide_eq_false_iff_not, beq_iff_eq, bne_iff_ne, beq_eq_false_iff_ne, bne_eq_false_iff_eq] at c37')
  refine wp_seq_k fun K40 hK40 => ?_
  refine wp_seq_k fun K41 hK41 => ?_
  refine wp_region_lit ?_
  refine q_is (l' := [(Iv kind), Ud, (Iv 0), (Iv kind), (Bo (icmp .eql kind 16)), (Bo (icmp .eql kind 0)), (Bo (icmp .eql kind 8)), (Bo (icmp .eql kind 10)), (Bo (icmp .eql kind 12)), (Bo (icmp .eql kind 14)), (Bo (icmp .eql kind 15)), (Bo (icmp .eql kind 16)), (Bo (icmp .eql kind 3)), (Bo (icmp .eql kind 2)), (Bo (icmp .eql kind 3)), Ud, (Bo (icmp .eql kind 1)), Ud, Ud, Ud, Ud]) rfl rfl (does_icmp (p := kind) (q := 1) (.inl rfl) (ev rfl) (ev rfl)) rfl ?_
  refine q_is (l' := [(Iv kind), Ud, (Iv 0), (Iv kind), (Bo (icmp .eql kind 16)), (Bo (icmp .eql kind 0)), (Bo (icmp .eql kind 8)), (Bo (icmp .eql kind 10)), (Bo (icmp .eql kind 12)), (Bo (icmp .eql kind 14)), (Bo (icmp .eql kind 15)), (Bo (icmp .eql kind 16)), (Bo (icmp .eql kind 3)), (Bo (icmp .eql kind 2)), (Bo (icmp .eql kind 3)), (Bo (icmp .eql kind 1)), (Bo (icmp .eql kind 1)), Ud, Ud, Ud, Ud]) rfl rfl (does_assign (u := (Bo (icmp .eql kind 1))) (ev rfl)) rfl ?_
  refine wpList_nil (hK41 _ _ ?_)
  refine wp_cond_split (t := icmp .eql kind 1) (ev rfl) (fun c42 => ?_) (fun c42 => ?_)
  · have c42' := c42
    (try simp only [icmp, Bool.and_eq_true, Bool.or_eq_true, Bool.and_eq_false_iff, Bool.or_eq_false_iff, Bool.not_eq_true', Bool.not_eq_false', decide_eq_true_eq, decide_eq_false_iff_not, beq_iff_eq, bne_iff_ne, beq_eq_false_iff_ne, bne_eq_false_iff_eq] at c42')
    refine wp_skip (hK40 _ _ ?_)
    refine wp_cond_true ((ev (rfl : evl _ _ = .bool (icmp .eql kind 1))).trans (congrArg Value.bool c42)) ?_
    refine wp_seq_k fun K43 hK43 => ?_
    refine wp_region_lit ?_
    refine q_is (l' := [(Iv kind), Ud, (Iv 3), (Iv kind), (Bo (icmp .eql kind 16)), (Bo (icmp .eql kind 0)), (Bo (icmp .eql kind 8)), (Bo (icmp .eql kind 10)), (Bo (icmp .eql kind 12)), (Bo (icmp .eql kind 14)), (Bo (icmp .eql kind 15)), (Bo (icmp .eql kind 16)), (Bo (icmp .eql kind 3)), (Bo (icmp .eql kind 2)), (Bo (icmp .eql kind 3)), (Bo (icmp .eql kind 1)), (Bo (icmp .eql kind 1)), Ud, Ud, Ud, Ud]) rfl rfl (does_assign (u := (Iv 3)) (ev rfl)) rfl ?_
    refine wpList_nil (hK43 _ _ ?_)
    refine wp_ret ?_
    dsimp only [Exit.then, Exit.inBlock]
    refine ret_val (v := (Iv 3)) (res_T rfl (slot rfl)) (Ext.refl w) ?_
    have x44 : (rlNum kind : Int) = 3 := by first | (simp_all [rlNum, icmp]; done) | (simp [rlNum]; omega)
    exact (by first | rfl | rw [x44])
  have c42' := c42
  (try simp only [icmp, Bool.and_eq_true, Bool.or_eq_true, Bool.and_eq_false_iff, Bool.or_eq_false_iff, Bool.not_eq_true', Bool.not_eq_false', decide_eq_true_eq, decide_eq_false_iff_not, beq_iff_eq, bne_iff_ne, beq_eq_false_iff_ne, bne_eq_false_iff_eq] at c42')
  refine wp_seq_k fun K45 hK45 => ?_
  refine wp_region_lit ?_
  refine q_is (l' := [(Iv kind), Ud, (Iv 0), (Iv kind), (Bo (icmp .eql kind 16)), (Bo (icmp .eql kind 0)), (Bo (icmp .eql kind 8)), (Bo (icmp .eql kind 10)), (Bo (icmp .eql kind 12)), (Bo (icmp .eql kind 14)), (Bo (icmp .eql kind 15)), (Bo (icmp .eql kind 16)), (Bo (icmp .eql kind 3)), (Bo (icmp .eql kind 2)), (Bo (icmp .eql kind 3)), (Bo (icmp .eql kind 1)), (Bo (icmp .eql kind 1)), (Bo (icmp .eql kind 9)), Ud, Ud, Ud]) rfl rfl (does_icmp (p := kind) (q := 9) (.inl rfl) (ev rfl) (ev rfl)) rfl ?_
  refine q_is (l' := [(Iv kind), Ud, (Iv 0), (Iv kind), (Bo (icmp .eql kind 16)), (Bo (icmp .eql kind 0)), (Bo (icmp .eql kind 8)), (Bo (icmp .eql kind 10)), (Bo (icmp .eql kind 12)), (Bo (icmp .eql kind 14)), (Bo (icmp .eql kind 15)), (Bo (icmp .eql kind 16)), (Bo (icmp .eql kind 3)), (Bo (icmp .eql kind 2)), (Bo (icmp .eql kind 3)), (Bo (icmp .eql kind 9)), (Bo (icmp .eql kind 1)), (Bo (icmp .eql kind 9)), Ud, Ud, Ud]) rfl rfl (does_assign (u := (Bo (icmp .eql kind 9))) (ev rfl)) rfl ?_
  refine wpList_nil (hK45 _ _ ?_)
  refine wp_cond_split (t := icmp .eql kind 9) (ev rfl) (fun c46 => ?_) (fun c46 => ?_)
  · have c46' := c46
    (try simp only [icmp, Bool.and_eq_true, Bool.or_eq_true, Bool.and_eq_false_iff, Bool.or_eq_false_iff, Bool.not_eq_true', Bool.not_eq_false', decide_eq_true_eq, decide_eq_false_iff_not, beq_iff_eq, bne_iff_ne, beq_eq_false_iff_ne, bne_eq_false_iff_eq] at c46')
    refine wp_skip (hK40 _ _ ?_)
    refine wp_cond_true ((ev (rfl : evl _ _ = .bool (icmp .eql kind 9))).trans (congrArg Value.bool c46)) ?_
    refine wp_seq_k fun K47 hK47 => ?_
    refine wp_region_lit ?_
    refine q_is (l' := [(Iv kind), Ud, (Iv 3), (Iv kind), (Bo (icmp .eql kind 16)), (Bo (icmp .eql kind 0)), (Bo (icmp .eql kind 8)), (Bo (icmp .eql kind 10)), (Bo (icmp .eql kind 12)), (Bo (icmp .eql kind 14)), (Bo (icmp .eql kind 15)), (Bo (icmp .eql kind 16)), (Bo (icmp .eql kind 3)), (Bo (icmp .eql kind 2)), (Bo (icmp .eql kind 3)), (Bo (icmp .eql kind 9)), (Bo (icmp .eql kind 1)), (Bo (icmp .eql kind 9)), Ud, Ud, Ud]) rfl rfl (does_assign (u := (Iv 3)) (ev rfl)) rfl ?_
    refine wpList_nil (hK47 _ _ ?_)
    refine wp_ret ?_
    dsimp only [Exit.then, Exit.inBlock]
    refine ret_val (v := (Iv 3)) (res_T rfl (slot rfl)) (Ext.refl w) ?_
    have x48 : (rlNum kind : Int) = 3 := by first | (simp_all [rlNum, icmp]; done) | (simp [rlNum]; omega)
    exact (by first | rfl | rw [x48])
  have c46' := c46
  (try simp only [icmp, Bool.and_eq_true, Bool.or_eq_true, Bool.and_eq_false_iff, Bool.or_eq_false_iff, Bool.not_eq_true', Bool.not_eq_false', decide_eq_true_eq, decide_eq_false_iff_not, beq_iff_eq, bne_iff_ne, beq_eq_false_iff_ne, bne_eq_false_iff_eq] at c46')
  refine wp_region_lit ?_
  refine q_is (l' := [(Iv kind), Ud, (Iv 0), (Iv kind), (Bo (icmp .eql kind 16)), (Bo (icmp .eql kind 0)), (Bo (icmp .eql kind 8)), (Bo (icmp .eql kind 10)), (Bo (icmp .eql kind 12)), (Bo (icmp .eql kind 14)), (Bo (icmp .eql kind 15)), (Bo (icmp .eql kind 16)), (Bo (icmp .eql kind 3)), (Bo (icmp .eql kind 2)), (Bo (icmp .eql kind 3)), (Bo (icmp .eql kind 9)), (Bo (icmp .eql kind 1)), (Bo (icmp .eql kind 9)), (Bo (icmp .eql kind 11)), Ud, Ud]) rfl rfl (does_icmp (p := kind) (q := 11) (.inl rfl) (ev rfl) (ev rfl)) rfl ?_
  refine q_is (l' := [(Iv kind), Ud, (Iv 0), (Iv kind), (Bo (icmp .eql kind 16)), (Bo (icmp .eql kind 0)), (Bo (icmp .eql kind 8)), (Bo (icmp .eql kind 10)), (Bo (icmp .eql kind 12)), (Bo (icmp .eql kind 14)), (Bo (icmp .eql kind 15)), (Bo (icmp .eql kind 16)), (Bo (icmp .eql kind 3)), (Bo (icmp .eql kind 2)), (Bo (icmp .eql kind 3)), (Bo (icmp .eql kind 11)), (Bo (icmp .eql kind 1)), (Bo (icmp .eql kind 9)), (Bo (icmp .eql kind 11)), Ud, Ud]) rfl rfl (does_assign (u := (Bo (icmp .eql kind 11))) (ev rfl)) rfl ?_
  refine wpList_nil (hK40 _ _ ?_)
  refine wp_cond_split (t := icmp .eql kind 11) (ev rfl) (fun c49 => ?_) (fun c49 => ?_)
  · have c49' := c49
    (try simp only [icmp, Bool.and_eq_true, Bool.or_eq_true, Bool.and_eq_false_iff, Bool.or_eq_false_iff, Bool.not_eq_true', Bool.not_eq_false', decide_eq_true_eq, decide_eq_false_iff_not, beq_iff_eq, bne_iff_ne, beq_eq_false_iff_ne, bne_eq_false_iff_eq] at c49')
    refine wp_seq_k fun K50 hK50 => ?_
    refine wp_region_lit ?_
    refine q_is (l' := [(Iv kind), Ud, (Iv 3), (Iv kind), (Bo (icmp .eql kind 16)), (Bo (icmp .eql kind 0)), (Bo (icmp .eql kind 8)), (Bo (icmp .eql kind 10)), (Bo (icmp .eql kind 12)), (Bo (icmp .eql kind 14)), (Bo (icmp .eql kind 15)), (Bo (icmp .eql kind 16)), (Bo (icmp .eql kind 3)), (Bo (icmp .eql kind 2)), (Bo (icmp .eql kind 3)), (Bo (icmp .eql kind 11)), (Bo (icmp .eql kind 1)), (Bo (icmp .eql kind 9)), (Bo (icmp .eql kind 11)), Ud, Ud]) rfl rfl (does_assign (u := (Iv 3)) (ev rfl)) rfl ?_
    refine wpList_nil (hK50 _ _ ?_)
    refine wp_ret ?_
    dsimp only [Exit.then, Exit.inBlock]
    refine ret_val (v := (Iv 3)) (res_T rfl (slot rfl)) (Ext.refl w) ?_
    have x51 : (rlNum kind : Int) = 3 := by first | (simp_all [rlNum, icmp]; done) | (simp [rlNum]; omega)
    exact (by first | rfl | rw [x51])
  have c49' := c49
  (try simp only [icmp, Bool.and_eq_true, Bool.or_eq_true, Bool.and_eq_false_iff, Bool.or_eq_false_iff, Bool.not_eq_true', Bool.not_eq_false', decide_eq_true_eq, decide_eq_false_iff_not, beq_iff_eq, bne_iff_ne, beq_eq_false_iff_ne, bne_eq_false_iff_eq] at c49')
  refine wp_seq_k fun K52 hK52 => ?_
  refine wp_region_lit ?_
  refine q_is (l' := [(Iv kind), Ud, (Iv 0), (Iv kind), (Bo (icmp .eql kind 16)), (Bo (icmp .eql kind 0)), (Bo (icmp .eql kind 8)), (Bo (icmp .eql kind 10)), (Bo (icmp .eql kind 12)), (Bo (icmp .eql kind 14)), (Bo (icmp .eql kind 15)), (Bo (icmp .eql kind 16)), (Bo (icmp .eql kind 3)), (Bo (icmp .eql kind 2)), (Bo (icmp .eql kind 3)), (Bo (icmp .eql kind 11)), (Bo (icmp .eql kind 1)), (Bo (icmp .eql kind 9)), (Bo (icmp .eql kind 11)), Ud, (Bo (icmp .eql kind 4))]) rfl rfl (does_icmp (p := kind) (q := 4) (.inl rfl) (ev rfl) (ev rfl)) rfl ?_
  refine q_is (l' := [(Iv kind), Ud, (Iv 0), (Iv kind), (Bo (icmp .eql kind 16)), (Bo (icmp .eql kind 0)), (Bo (icmp .eql kind 8)), (Bo (icmp .eql kind 10)), (Bo (icmp .eql kind 12)), (Bo (icmp .eql kind 14)), (Bo (icmp .eql kind 15)), (Bo (icmp .eql kind 16)), (Bo (icmp .eql kind 3)), (Bo (icmp .eql kind 2)), (Bo (icmp .eql kind 3)), (Bo (icmp .eql kind 11)), (Bo (icmp .eql kind 1)), (Bo (icmp .eql kind 9)), (Bo (icmp .eql kind 11)), (Bo (icmp .eql kind 4)), (Bo (icmp .eql kind 4))]) rfl rfl (does_assign (u := (Bo (icmp .eql kind 4))) (ev rfl)) rfl ?_
  refine wpList_nil (hK52 _ _ ?_)
  refine wp_cond_split (t := icmp .eql kind 4) (ev rfl) (fun c53 => ?_) (fun c53 => ?_)
  · have c53' := c53
    (try simp only [icmp, Bool.and_eq_true, Bool.or_eq_true, Bool.and_eq_false_iff, Bool.or_eq_false_iff, Bool.not_eq_true', Bool.not_eq_false', decide_eq_true_eq, decide_eq_false_iff_not, beq_iff_eq, bne_iff_ne, beq_eq_false_iff_ne, bne_eq_false_iff_eq] at c53')
    refine wp_seq_k fun K54 hK54 => ?_
    refine wp_region_lit ?_
    refine q_is (l' := [(Iv kind), Ud, (Iv 4), (Iv kind), (Bo (icmp .eql kind 16)), (Bo (icmp .eql kind 0)), (Bo (icmp .eql kind 8)), (Bo (icmp .eql kind 10)), (Bo (icmp .eql kind 12)), (Bo (icmp .eql kind 14)), (Bo (icmp .eql kind 15)), (Bo (icmp .eql kind 16)), (Bo (icmp .eql kind 3)), (Bo (icmp .eql kind 2)), (Bo (icmp .eql kind 3)), (Bo (icmp .eql kind 11)), (Bo (icmp .eql kind 1)), (Bo (icmp .eql kind 9)), (Bo (icmp .eql kind 11)), (Bo (icmp .eql kind 4)), (Bo (icmp .eql kind 4))]) rfl rfl (does_assign (u := (Iv 4)) (ev rfl)) rfl ?_
    refine wpList_nil (hK54 _ _ ?_)
    refine wp_ret ?_
    dsimp only [Exit.then, Exit.inBlock]
    refine ret_val (v := (Iv 4)) (res_T rfl (slot rfl)) (Ext.refl w) ?_
    have x55 : (rlNum kind : Int) = 4 := by first | (simp_all [rlNum, icmp]; done) | (simp [rlNum]; omega)
    exact (by first | rfl | rw [x55])
  have c53' := c53
  (try simp only [icmp, Bool.and_eq_true, Bool.or_eq_true, Bool.and_eq_false_iff, Bool.or_eq_false_iff, Bool.not_eq_true', Bool.not_eq_false', decide_eq_true_eq, decide_eq_false_iff_not, beq_iff_eq, bne_iff_ne, beq_eq_false_iff_ne, bne_eq_false_iff_eq] at c53')
  refine wp_skip (hK2 _ _ ?_)
  refine wp_seq_k fun K56 hK56 => ?_
  refine wp_region_lit ?_
  refine q_is (l' := [(Iv kind), Ud, (Iv 0), (Iv kind), (Bo (icmp .eql kind 16)), (Bo (icmp .eql kind 0)), (Bo (icmp .eql kind 8)), (Bo (icmp .eql kind 10)), (Bo (icmp .eql kind 12)), (Bo (icmp .eql kind 14)), (Bo (icmp .eql kind 15)), (Bo (icmp .eql kind 16)), (Bo (icmp .eql kind 3)), (Bo (icmp .eql kind 2)), (Bo (icmp .eql kind 3)), (Bo (icmp .eql kind 11)), (Bo (icmp .eql kind 1)), (Bo (icmp .eql kind 9)), (Bo (icmp .eql kind 11)), (Bo (icmp .eql kind 4)), (Bo (icmp .eql kind 4))]) rfl rfl (does_assign (u := (Iv 0)) (ev rfl)) rfl ?_
  refine wpList_nil (hK56 _ _ ?_)
  refine wp_ret ?_
  refine ret_val (v := (Iv 0)) (res_T rfl (slot rfl)) (Ext.refl w) ?_
  have x57 : (rlNum kind : Int) = 0 := by first | (simp_all [rlNum, icmp]; done) | (simp [rlNum]; omega)
  exact (by first | rfl | rw [x57])

/- spec.l01Finite -/
theorem c_spec_l01Finite (x : Nat) (w : World) : Gives Try.prog 34 #[(Fl x)] w (fun v w' => v = (Bo (finF (cf .f32 x)))) := by
  refine enter [(Fl x), Ud, Ud, Ud, Ud, Ud, Ud] Try.func34 rfl Try.ntmps34 rfl ?_
  refine wp_seq_k fun K1 hK1 => ?_
  refine wp_region_lit ?_
  refine q_is (l' := [(Fl x), Ud, (Bo false), Ud, Ud, Ud, Ud]) rfl rfl (does_assign (u := (Bo false)) (ev rfl)) rfl ?_
  refine wpList_nil (hK1 _ _ ?_)
  refine wp_seq_k fun K2 hK2 => ?_
  refine wp_region_lit ?_
  refine q_is (l' := [(Fl x), Ud, (Bo false), (Fl x), Ud, Ud, Ud]) rfl rfl (does_move (u := (Fl x)) (ev rfl)) rfl ?_
  refine q_is (l' := [(Fl x), Ud, (Bo false), (Fl x), (Fl x), Ud, Ud]) rfl rfl (does_move (u := (Fl x)) (ev rfl)) rfl ?_
  refine seqd rfl rfl (does_float (.inr (.inl rfl)) (ev rfl) (ev rfl)) ?_; rintro _ w6 ⟨r3, rfl, h4, E5⟩
  have X7 := Ext.gr (Ext.refl w) E5
  show wpList _ _ _ _ (fr [(Fl x), Ud, (Bo false), (Fl x), (Fl x), (Fl r3), Ud]) _
  refine q_is (l' := [(Fl x), Ud, (Bo false), (Fl x), (Fl x), (Fl r3), (Bo (fcmp .eql (ford .f32 (cf .f32 r3) (cf .f32 0))))]) rfl rfl (does_fcmp (.inl rfl) (ev rfl) (ev rfl)) rfl ?_
  refine q_is (l' := [(Fl x), Ud, (Bo (fcmp .eql (ford .f32 (cf .f32 r3) (cf .f32 0)))), (Fl x), (Fl x), (Fl r3), (Bo (fcmp .eql (ford .f32 (cf .f32 r3) (cf .f32 0))))]) rfl rfl (does_assign (u := (Bo (fcmp .eql (ford .f32 (cf .f32 r3) (cf .f32 0))))) (ev rfl)) rfl ?_
  refine wpList_nil (hK2 _ _ ?_)
  refine wp_ret ?_
  refine ret_val (v := (Bo (fcmp .eql (ford .f32 (cf .f32 r3) (cf .f32 0))))) (res_T rfl (slot rfl)) X7 ?_
  have x8 : (finF (cf .f32 x)) = (fcmp .eql (ford .f32 (cf .f32 r3) (cf .f32 0))) := by first | with_reducible rfl | (simp only [finF, h4]; done) | (simp [finF, h4]; done) | rfl
  exact (by first | rfl | rw [x8])

/- spec.l02Numbers -/
theorem c_spec_l02Numbers (kind : Int) (nums : Value) (L_nums : List Nat) (w : World) (hv_nums : Sl RF 1 w nums L_nums) : Gives Try.prog 22 #[(Iv kind), nums] w (fun v w' => v = (Bo (nodeNums kind L_nums))) := by
  have hlen_nums := Sl.len hv_nums; obtain ⟨p_nums, q_nums, rfl⟩ := Sl.shape hv_nums
  refine enter [(Iv kind), (.slice p_nums L_nums.length q_nums), Ud, Ud, Ud, Ud, Ud, Ud, Ud, Ud, Ud, Ud, Ud, Ud, Ud, Ud, Ud, Ud, Ud, Ud, Ud, Ud, Ud, Ud, Ud, Ud, Ud, Ud, Ud, Ud, Ud, Ud, Ud, Ud, Ud, Ud, Ud, Ud, Ud, Ud, Ud, Ud, Ud, Ud, Ud] Try.func22 rfl Try.ntmps22 rfl ?_
  refine wp_seq_k fun K1 hK1 => ?_
  refine wp_region_lit ?_
  refine q_is rfl rfl (does_assign (u := (Bo false)) (ev rfl)) (by dsimp only [List.set]; try rfl) ?_
  refine wpList_nil (hK1 _ _ ?_)
  refine wp_seq_k fun K2 hK2 => ?_
  refine wp_seq_k fun K3 hK3 => ?_
  refine wp_region_lit ?_
  refine q_is rfl rfl (does_move (u := (.slice p_nums L_nums.length q_nums)) (ev rfl)) (by dsimp only [List.set]; try rfl) ?_
  refine q_is rfl rfl (does_len_slice Try.underlying32 (ev rfl)) (by dsimp only [List.set]; try rfl) ?_
  refine q_is rfl rfl (does_move (u := (Iv kind)) (ev rfl)) (by dsimp only [List.set]; try rfl) ?_
  refine seqd rfl rfl (does_call (args := #[(Iv kind)]) cal33 (evs rfl) (c_spec_l02Count kind _)) ?_; rintro _ w5 ⟨E4, rfl⟩
  have X6 := Ext.gr (Ext.refl w) E4
  show wpList _ _ _ _ (fr [(Iv kind), (.slice p_nums L_nums.length q_nums), Ud, Ud, (Bo false), Ud, (.slice p_nums L_nums.length q_nums), (Iv (L_nums.length : Int)), (Iv kind), (Iv (rlNum kind)), Ud, Ud, Ud, Ud, Ud, Ud, Ud, Ud, Ud, Ud, Ud, Ud, Ud, Ud, Ud, Ud, Ud, Ud, Ud, Ud, Ud, Ud, Ud, Ud, Ud, Ud, Ud, Ud, Ud, Ud, Ud, Ud, Ud, Ud, Ud]) _
  refine q_is rfl rfl (does_icmp (p := (L_nums.length : Int)) (q := rlNum kind) (.inr (.inl rfl)) (ev rfl) (ev rfl)) (by dsimp only [List.set]; try rfl) ?_
  refine wpList_nil (hK3 _ _ ?_)
  refine wp_cond_split (t := icmp .neq (L_nums.length : Int) (rlNum kind)) (ev rfl) (fun c7 => ?_) (fun c7 => ?_)
  · have c7' := c7
    (try simp only [icmp, Bool.and_eq_true, Bool.or_eq_true, Bool.and_eq_false_iff, Bool.or_eq_false_iff, Bool.not_eq_true', Bool.not_eq_false', decide_eq_true_eq, decide_eq_false_iff_not, beq_iff_eq, bne_iff_ne, beq_eq_false_iff_ne, bne_eq_false_iff_eq] at c7')
    refine wp_seq_k fun K8 hK8 => ?_
    refine wp_region_lit ?_
    refine q_is rfl rfl (does_assign (u := (Bo false)) (ev rfl)) (by dsimp only [List.set]; try rfl) ?_
    refine wpList_nil (hK8 _ _ ?_)
    refine wp_ret ?_
    dsimp only [Exit.then, Exit.inBlock]
    refine ret_val (v := (Bo false)) (res_T rfl (slot rfl)) X6 ?_
    have x9 : (nodeNums kind L_nums) = false := by first | exact nodeNums_len (by omega) | exact nodeNums_bad (by assumption) (by simp_all [numOk, rlSg, inI, icmp, lssF, leqF]) | exact nodeNums_ok (by omega) hal (by omega)
    exact (by first | rfl | rw [x9])
  have c7' := c7
  (try simp only [icmp, Bool.and_eq_true, Bool.or_eq_true, Bool.and_eq_false_iff, Bool.or_eq_false_iff, Bool.not_eq_true', Bool.not_eq_false', decide_eq_true_eq, decide_eq_false_iff_not, beq_iff_eq, bne_iff_ne, beq_eq_false_iff_ne, bne_eq_false_iff_eq] at c7')
  refine wp_skip (hK2 _ _ ?_)
  refine wp_seq_k fun K10 hK10 => ?_
  refine wp_seq_k fun K11 hK11 => ?_
  refine wp_region_lit ?_
  refine q_is rfl rfl (does_assign (u := (Iv 0)) (ev rfl)) (by dsimp only [List.set]; try rfl) ?_
  refine wpList_nil (hK11 _ _ ?_)
  refine wp_block ?_
  refine loop_ghost (σ := Nat) (fun k a w' => ∃ u12 : Nat → Value, a = fr [(Iv kind), (.slice p_nums L_nums.length q_nums), Ud, Ud, (u12 4), (Iv (k : Int)), (.slice p_nums L_nums.length q_nums), (Iv (L_nums.length : Int)), (Iv kind), (Iv (rlNum kind)), (Bo (icmp .neq (L_nums.length : Int) (rlNum kind))), (u12 11), (u12 12), (u12 13), (u12 14), (u12 15), (u12 16), (u12 17), (u12 18), (u12 19), (u12 20), (u12 21), (u12 22), (u12 23), (u12 24), (u12 25), (u12 26), (u12 27), (u12 28), (u12 29), (u12 30), (u12 31), (u12 32), (u12 33), (u12 34), (u12 35), (u12 36), (u12 37), (u12 38), (u12 39), (u12 40), (u12 41), (u12 42), (u12 43), (u12 44)] ∧ Ext w5 w' ∧ (k ≤ L_nums.length ∧ AllTo (numOk kind) L_nums k)) (fun k => L_nums.length - k) 0 ?_ ?_
  · refine ⟨fun t => (([(Iv kind), (.slice p_nums L_nums.length q_nums), Ud, Ud, (Bo false), (Iv 0), (.slice p_nums L_nums.length q_nums), (Iv (L_nums.length : Int)), (Iv kind), (Iv (rlNum kind)), (Bo (icmp .neq (L_nums.length : Int) (rlNum kind))), Ud, Ud, Ud, Ud, Ud, Ud, Ud, Ud, Ud, Ud, Ud, Ud, Ud, Ud, Ud, Ud, Ud, Ud, Ud, Ud, Ud, Ud, Ud, Ud, Ud, Ud, Ud, Ud, Ud, Ud, Ud, Ud, Ud, Ud] : List Value)[t]?).getD undef, rfl, Ext.refl _, ?_⟩
    exact ⟨Nat.zero_le _, AllTo.zero⟩
  · rintro k a w13 ⟨u12, rfl, E14, ⟨hk, hal⟩⟩
    have X16 := Ext.gr X6 E14
    refine wp_seq_k fun K17 hK17 => ?_
    refine wp_seq_k fun K18 hK18 => ?_
    refine wp_region_lit ?_
    refine q_is rfl rfl (does_move (u := (Iv (k : Int))) (ev rfl)) (by dsimp only [List.set]; try rfl) ?_
    refine q_is rfl rfl (does_move (u := (.slice p_nums L_nums.length q_nums)) (ev rfl)) (by dsimp only [List.set]; try rfl) ?_
    refine q_is rfl rfl (does_len_slice Try.underlying32 (ev rfl)) (by dsimp only [List.set]; try rfl) ?_
    refine q_is rfl rfl (does_icmp (p := (k : Int)) (q := (L_nums.length : Int)) (.inr (.inr (.inl rfl))) (ev rfl) (ev rfl)) (by dsimp only [List.set]; try rfl) ?_
    refine wpList_nil (hK18 _ _ ?_)
    refine wp_cond_split (t := icmp .lss (k : Int) (L_nums.length : Int)) (ev rfl) (fun c19 => ?_) (fun c19 => ?_)
    · have c19' := c19
      (try simp only [icmp, Bool.and_eq_true, Bool.or_eq_true, Bool.and_eq_false_iff, Bool.or_eq_false_iff, Bool.not_eq_true', Bool.not_eq_false', decide_eq_true_eq, decide_eq_false_iff_not, beq_iff_eq, bne_iff_ne, beq_eq_false_iff_ne, bne_eq_false_iff_eq] at c19')
      refine wp_skip (hK17 _ _ ?_)
      refine wp_seq_k fun K20 hK20 => ?_
      refine wp_block ?_
      refine wp_seq_k fun K21 hK21 => ?_
      refine wp_seq_k fun K22 hK22 => ?_
      refine wp_region_lit ?_
      refine q_is rfl rfl (does_move (u := (.slice p_nums L_nums.length q_nums)) (ev rfl)) (by dsimp only [List.set]; try rfl) ?_
      refine q_is rfl rfl (does_move (u := (Iv (k : Int))) (ev rfl)) (by dsimp only [List.set]; try rfl) ?_
      obtain ⟨el1, hel1⟩ : ∃ e, L_nums[k]? = some e := ⟨_, List.getElem?_eq_getElem (by omega)⟩
      refine seqd rfl rfl (does_indexSl (R := RF) (i := (k : Int)) (xs := L_nums) (e := el1) Try.underlying32 Try.sizeOf59 (ev rfl) (ev rfl) (Sl.ext hv_nums RF.mono X16) (by omega) hel1) ?_; rintro _ w13 ⟨b23, o24, _, rfl, hc26, ⟨r27, rfl, h28⟩, rfl⟩
      show wpList _ _ _ _ (fr [(Iv kind), (.slice p_nums L_nums.length q_nums), Ud, Ud, (u12 4), (Iv (k : Int)), (.slice p_nums L_nums.length q_nums), (Iv (L_nums.length : Int)), (Iv kind), (Iv (rlNum kind)), (Bo (icmp .neq (L_nums.length : Int) (rlNum kind))), (Iv (k : Int)), (.slice p_nums L_nums.length q_nums), (Iv (L_nums.length : Int)), (Bo (icmp .lss (k : Int) (L_nums.length : Int))), (u12 15), (u12 16), (.slice p_nums L_nums.length q_nums), (Iv (k : Int)), (Pt b23 o24), (u12 20), (u12 21), (u12 22), (u12 23), (u12 24), (u12 25), (u12 26), (u12 27), (u12 28), (u12 29), (u12 30), (u12 31), (u12 32), (u12 33), (u12 34), (u12 35), (u12 36), (u12 37), (u12 38), (u12 39), (u12 40), (u12 41), (u12 42), (u12 43), (u12 44)]) _
      refine q_is rfl rfl (does_load (u := (Fl r27)) (ev rfl) Try.isAgg59 (Cells.at hc26 0 rfl)) (by dsimp only [List.set]; try rfl) ?_
      refine seqd rfl rfl (does_call (args := #[(Fl r27)]) cal34 (evs rfl) (c_spec_l01Finite r27 _)) ?_; rintro _ w30 ⟨E29, rfl⟩
      have X31 := Ext.gr X16 E29
      show wpList _ _ _ _ (fr [(Iv kind), (.slice p_nums L_nums.length q_nums), Ud, Ud, (u12 4), (Iv (k : Int)), (.slice p_nums L_nums.length q_nums), (Iv (L_nums.length : Int)), (Iv kind), (Iv (rlNum kind)), (Bo (icmp .neq (L_nums.length : Int) (rlNum kind))), (Iv (k : Int)), (.slice p_nums L_nums.length q_nums), (Iv (L_nums.length : Int)), (Bo (icmp .lss (k : Int) (L_nums.length : Int))), (u12 15), (u12 16), (.slice p_nums L_nums.length q_nums), (Iv (k : Int)), (Pt b23 o24), (Fl r27), (Bo (finF (cf .f32 r27))), (u12 22), (u12 23), (u12 24), (u12 25), (u12 26), (u12 27), (u12 28), (u12 29), (u12 30), (u12 31), (u12 32), (u12 33), (u12 34), (u12 35), (u12 36), (u12 37), (u12 38), (u12 39), (u12 40), (u12 41), (u12 42), (u12 43), (u12 44)]) _
      refine q_is rfl rfl (does_not (ev rfl)) (by dsimp only [List.set]; try rfl) ?_
      refine wpList_nil (hK22 _ _ ?_)
      refine wp_cond_split (t := !(finF (cf .f32 r27))) (ev rfl) (fun c32 => ?_) (fun c32 => ?_)
      · rw [Bool.not_eq_true'] at c32
        have c32' := c32
        refine wp_seq_k fun K33 hK33 => ?_
        refine wp_region_lit ?_
        refine q_is rfl rfl (does_assign (u := (Bo false)) (ev rfl)) (by dsimp only [List.set]; try rfl) ?_
        refine wpList_nil (hK33 _ _ ?_)
        refine wp_ret ?_
        dsimp only [Exit.then, Exit.inBlock]
        refine ret_val (v := (Bo false)) (res_T rfl (slot rfl)) X31 ?_
        try simp only [hel1, h28] at c7 c19 c32
        have x34 : (nodeNums kind L_nums) = false := by first | exact nodeNums_len (by omega) | exact nodeNums_bad (by assumption) (by simp_all [numOk, rlSg, inI, icmp, lssF, leqF]) | exact nodeNums_ok (by omega) hal (by omega)
        exact (by first | rfl | rw [x34])
      rw [Bool.not_eq_false'] at c32
      have c32' := c32
      refine wp_skip (hK21 _ _ ?_)
      refine wp_seq_k fun K35 hK35 => ?_
      refine wp_region_lit ?_
      refine q_is rfl rfl (does_move (u := (Iv kind)) (ev rfl)) (by dsimp only [List.set]; try rfl) ?_
      refine wpList_nil (hK35 _ _ ?_)
      refine wp_block ?_
      refine wp_seq_k fun K36 hK36 => ?_
      refine wp_seq_k fun K37 hK37 => ?_
      refine wp_region_lit ?_
      refine q_is rfl rfl (does_icmp (p := kind) (q := 0) (.inl rfl) (ev rfl) (ev rfl)) (by dsimp only [List.set]; try rfl) ?_
      refine q_is rfl rfl (does_assign (u := (Bo (icmp .eql kind 0))) (ev rfl)) (by dsimp only [List.set]; try rfl) ?_
      refine wpList_nil (hK37 _ _ ?_)
      refine wp_cond_split (t := icmp .eql kind 0) (ev rfl) (fun c38 => ?_) (fun c38 => ?_)
      · have c38' := c38
        (try simp only [icmp, Bool.and_eq_true, Bool.or_eq_true, Bool.and_eq_false_iff, Bool.or_eq_false_iff, Bool.not_eq_true', Bool.not_eq_false', decide_eq_true_eq, decide_eq_false_iff_not, beq_iff_eq, bne_iff_ne, beq_eq_false_iff_ne, bne_eq_false_iff_eq] at c38')
        refine wp_skip (hK36 _ _ ?_)
        refine wp_cond_true ((ev (rfl : evl _ _ = .bool (icmp .eql kind 0))).trans (congrArg Value.bool c38)) ?_
        refine wp_seq_k fun K39 hK39 => ?_
        refine wp_region_lit ?_
        refine q_is rfl rfl (does_move (u := (.slice p_nums L_nums.length q_nums)) (ev rfl)) (by dsimp only [List.set]; try rfl) ?_
        refine q_is rfl rfl (does_move (u := (Iv (k : Int))) (ev rfl)) (by dsimp only [List.set]; try rfl) ?_
        refine seqd rfl rfl (does_indexSl (R := RF) (i := (k : Int)) (xs := L_nums) (e := el1) Try.underlying32 Try.sizeOf59 (ev rfl) (ev rfl) (Sl.ext hv_nums RF.mono X31) (by omega) hel1) ?_; rintro _ w30 ⟨b40, o41, _, rfl, hc43, ⟨r44, rfl, h45⟩, rfl⟩
        show wpList _ _ _ _ (fr [(Iv kind), (.slice p_nums L_nums.length q_nums), Ud, Ud, (u12 4), (Iv (k : Int)), (.slice p_nums L_nums.length q_nums), (Iv (L_nums.length : Int)), (Iv kind), (Iv (rlNum kind)), (Bo (icmp .neq (L_nums.length : Int) (rlNum kind))), (Iv (k : Int)), (.slice p_nums L_nums.length q_nums), (Iv (L_nums.length : Int)), (Bo (icmp .lss (k : Int) (L_nums.length : Int))), (u12 15), (u12 16), (.slice p_nums L_nums.length q_nums), (Iv (k : Int)), (Pt b23 o24), (Fl r27), (Bo (finF (cf .f32 r27))), (Bo (!(finF (cf .f32 r27)))), (Iv kind), (Bo (icmp .eql kind 0)), (Bo (icmp .eql kind 0)), (u12 26), (u12 27), (u12 28), (u12 29), (.slice p_nums L_nums.length q_nums), (Iv (k : Int)), (Pt b40 o41), (u12 33), (u12 34), (u12 35), (u12 36), (u12 37), (u12 38), (u12 39), (u12 40), (u12 41), (u12 42), (u12 43), (u12 44)]) _
        refine q_is rfl rfl (does_load (u := (Fl r44)) (ev rfl) Try.isAgg59 (Cells.at hc43 0 rfl)) (by dsimp only [List.set]; try rfl) ?_
        refine q_is rfl rfl (does_fcmp (.inr (.inr (.inl rfl))) (ev rfl) (ev rfl)) (by dsimp only [List.set]; try rfl) ?_
        refine wpList_nil (hK39 _ _ ?_)
        refine wp_cond_split (t := fcmp .lss (ford .f32 (cf .f32 r44) (cf .f32 0))) (ev rfl) (fun c46 => ?_) (fun c46 => ?_)
        · have c46' := c46
          refine wp_seq_k fun K47 hK47 => ?_
          refine wp_region_lit ?_
          refine q_is rfl rfl (does_assign (u := (Bo false)) (ev rfl)) (by dsimp only [List.set]; try rfl) ?_
          refine wpList_nil (hK47 _ _ ?_)
          refine wp_ret ?_
          dsimp only [Exit.then, Exit.inBlock]
          refine ret_val (v := (Bo false)) (res_T rfl (slot rfl)) X31 ?_
          try simp only [hel1, h28, h45] at c7 c19 c32 c38 c46
          have x48 : (nodeNums kind L_nums) = false := by first | exact nodeNums_len (by omega) | exact nodeNums_bad (by assumption) (by simp_all [numOk, rlSg, inI, icmp, lssF, leqF]) | exact nodeNums_ok (by omega) hal (by omega)
          exact (by first | rfl | rw [x48])
        have c46' := c46
        refine wp_skip (hK20 _ _ ?_)
        refine wp_region_lit ?_
        refine q_is rfl rfl (does_move (u := (Iv (k : Int))) (ev rfl)) (by dsimp only [List.set]; try rfl) ?_
        refine q_is rfl rfl (does_iarith (p := (k : Int)) (q := 1) (r := (k : Int) + 1) (ev rfl) (ev rfl) (.inl ⟨rfl, (in_i64 (by omega) (by omega)).symm⟩)) (by dsimp only [List.set]; try rfl) ?_
        refine q_is rfl rfl (does_assign (u := (Iv ((k : Int) + 1))) (ev rfl)) (by dsimp only [List.set]; try rfl) ?_
        refine wpList_nil ?_
        refine ⟨k + 1, ⟨fun t => (([(Iv kind), (.slice p_nums L_nums.length q_nums), Ud, Ud, (u12 4), (Iv ((k : Int) + 1)), (.slice p_nums L_nums.length q_nums), (Iv (L_nums.length : Int)), (Iv kind), (Iv (rlNum kind)), (Bo (icmp .neq (L_nums.length : Int) (rlNum kind))), (Iv (k : Int)), (.slice p_nums L_nums.length q_nums), (Iv (L_nums.length : Int)), (Bo (icmp .lss (k : Int) (L_nums.length : Int))), (Iv (k : Int)), (Iv ((k : Int) + 1)), (.slice p_nums L_nums.length q_nums), (Iv (k : Int)), (Pt b23 o24), (Fl r27), (Bo (finF (cf .f32 r27))), (Bo (!(finF (cf .f32 r27)))), (Iv kind), (Bo (icmp .eql kind 0)), (Bo (icmp .eql kind 0)), (u12 26), (u12 27), (u12 28), (u12 29), (.slice p_nums L_nums.length q_nums), (Iv (k : Int)), (Pt b40 o41), (Fl r44), (Bo (fcmp .lss (ford .f32 (cf .f32 r44) (cf .f32 0)))), (u12 35), (u12 36), (u12 37), (u12 38), (u12 39), (u12 40), (u12 41), (u12 42), (u12 43), (u12 44)] : List Value)[t]?).getD undef, ?_, (Ext.gr E14 E29), ?_⟩, ?_⟩
        · first | rfl | (simp only [Nat.cast_add, Nat.cast_one, Int.natCast_add, Int.natCast_one]; rfl)
        · exact ⟨by omega, AllTo.step hal (by assumption) (by simp_all [numOk, rlSg, inI, icmp, lssF, leqF])⟩
        · omega
      have c38' := c38
      (try simp only [icmp, Bool.and_eq_true, Bool.or_eq_true, Bool.and_eq_false_iff, Bool.or_eq_false_iff, Bool.not_eq_true', Bool.not_eq_false', decide_eq_true_eq, decide_eq_false_iff_not, beq_iff_eq, bne_iff_ne, beq_eq_false_iff_ne, bne_eq_false_iff_eq] at c38')
      refine wp_seq_k fun K49 hK49 => ?_
      refine wp_region_lit ?_
      refine q_is rfl rfl (does_icmp (p := kind) (q := 1) (.inl rfl) (ev rfl) (ev rfl)) (by dsimp only [List.set]; try rfl) ?_
      refine q_is rfl rfl (does_assign (u := (Bo (icmp .eql kind 1))) (ev rfl)) (by dsimp only [List.set]; try rfl) ?_
      refine wpList_nil (hK49 _ _ ?_)
      refine wp_cond_split (t := icmp .eql kind 1) (ev rfl) (fun c50 => ?_) (fun c50 => ?_)
      · have c50' := c50
        (try simp only [icmp, Bool.and_eq_true, Bool.or_eq_true, Bool.and_eq_false_iff, Bool.or_eq_false_iff, Bool.not_eq_true', Bool.not_eq_false', decide_eq_true_eq, decide_eq_false_iff_not, beq_iff_eq, bne_iff_ne, beq_eq_false_iff_ne, bne_eq_false_iff_eq] at c50')
        refine wp_skip (hK36 _ _ ?_)
        refine wp_cond_true ((ev (rfl : evl _ _ = .bool (icmp .eql kind 1))).trans (congrArg Value.bool c50)) ?_
        refine wp_seq_k fun K51 hK51 => ?_
        refine wp_region_lit ?_
        refine q_is rfl rfl (does_move (u := (.slice p_nums L_nums.length q_nums)) (ev rfl)) (by dsimp only [List.set]; try rfl) ?_
        refine q_is rfl rfl (does_move (u := (Iv (k : Int))) (ev rfl)) (by dsimp only [List.set]; try rfl) ?_
        refine seqd rfl rfl (does_indexSl (R := RF) (i := (k : Int)) (xs := L_nums) (e := el1) Try.underlying32 Try.sizeOf59 (ev rfl) (ev rfl) (Sl.ext hv_nums RF.mono X31) (by omega) hel1) ?_; rintro _ w30 ⟨b52, o53, _, rfl, hc55, ⟨r56, rfl, h57⟩, rfl⟩
        show wpList _ _ _ _ (fr [(Iv kind), (.slice p_nums L_nums.length q_nums), Ud, Ud, (u12 4), (Iv (k : Int)), (.slice p_nums L_nums.length q_nums), (Iv (L_nums.length : Int)), (Iv kind), (Iv (rlNum kind)), (Bo (icmp .neq (L_nums.length : Int) (rlNum kind))), (Iv (k : Int)), (.slice p_nums L_nums.length q_nums), (Iv (L_nums.length : Int)), (Bo (icmp .lss (k : Int) (L_nums.length : Int))), (u12 15), (u12 16), (.slice p_nums L_nums.length q_nums), (Iv (k : Int)), (Pt b23 o24), (Fl r27), (Bo (finF (cf .f32 r27))), (Bo (!(finF (cf .f32 r27)))), (Iv kind), (Bo (icmp .eql kind 1)), (Bo (icmp .eql kind 0)), (Bo (icmp .eql kind 1)), (u12 27), (u12 28), (u12 29), (.slice p_nums L_nums.length q_nums), (Iv (k : Int)), (Pt b52 o53), (u12 33), (u12 34), (u12 35), (u12 36), (u12 37), (u12 38), (u12 39), (u12 40), (u12 41), (u12 42), (u12 43), (u12 44)]) _
        refine q_is rfl rfl (does_load (u := (Fl r56)) (ev rfl) Try.isAgg59 (Cells.at hc55 0 rfl)) (by dsimp only [List.set]; try rfl) ?_
        refine q_is rfl rfl (does_fcmp (.inr (.inr (.inl rfl))) (ev rfl) (ev rfl)) (by dsimp only [List.set]; try rfl) ?_
        refine wpList_nil (hK51 _ _ ?_)
        refine wp_cond_split (t := fcmp .lss (ford .f32 (cf .f32 r56) (cf .f32 0))) (ev rfl) (fun c58 => ?_) (fun c58 => ?_)
        · have c58' := c58
          refine wp_seq_k fun K59 hK59 => ?_
          refine wp_region_lit ?_
          refine q_is rfl rfl (does_assign (u := (Bo false)) (ev rfl)) (by dsimp only [List.set]; try rfl) ?_
          refine wpList_nil (hK59 _ _ ?_)
          refine wp_ret ?_
          dsimp only [Exit.then, Exit.inBlock]
          refine ret_val (v := (Bo false)) (res_T rfl (slot rfl)) X31 ?_
          try simp only [hel1, h28, h57] at c7 c19 c32 c38 c50 c58
          have x60 : (nodeNums kind L_nums) = false := by first | exact nodeNums_len (by omega) | exact nodeNums_bad (by assumption) (by simp_all [numOk, rlSg, inI, icmp, lssF, leqF]) | exact nodeNums_ok (by omega) hal (by omega)
          exact (by first | rfl | rw [x60])
        have c58' := c58
        refine wp_skip (hK20 _ _ ?_)
        refine wp_region_lit ?_
        refine q_is rfl rfl (does_move (u := (Iv (k : Int))) (ev rfl)) (by dsimp only [List.set]; try rfl) ?_
        refine q_is rfl rfl (does_iarith (p := (k : Int)) (q := 1) (r := (k : Int) + 1) (ev rfl) (ev rfl) (.inl ⟨rfl, (in_i64 (by omega) (by omega)).symm⟩)) (by dsimp only [List.set]; try rfl) ?_
        refine q_is rfl rfl (does_assign (u := (Iv ((k : Int) + 1))) (ev rfl)) (by dsimp only [List.set]; try rfl) ?_
        refine wpList_nil ?_
        refine ⟨k + 1, ⟨fun t => (([(Iv kind), (.slice p_nums L_nums.length q_nums), Ud, Ud, (u12 4), (Iv ((k : Int) + 1)), (.slice p_nums L_nums.length q_nums), (Iv (L_nums.length : Int)), (Iv kind), (Iv (rlNum kind)), (Bo (icmp .neq (L_nums.length : Int) (rlNum kind))), (Iv (k : Int)), (.slice p_nums L_nums.length q_nums), (Iv (L_nums.length : Int)), (Bo (icmp .lss (k : Int) (L_nums.length : Int))), (Iv (k : Int)), (Iv ((k : Int) + 1)), (.slice p_nums L_nums.length q_nums), (Iv (k : Int)), (Pt b23 o24), (Fl r27), (Bo (finF (cf .f32 r27))), (Bo (!(finF (cf .f32 r27)))), (Iv kind), (Bo (icmp .eql kind 1)), (Bo (icmp .eql kind 0)), (Bo (icmp .eql kind 1)), (u12 27), (u12 28), (u12 29), (.slice p_nums L_nums.length q_nums), (Iv (k : Int)), (Pt b52 o53), (Fl r56), (Bo (fcmp .lss (ford .f32 (cf .f32 r56) (cf .f32 0)))), (u12 35), (u12 36), (u12 37), (u12 38), (u12 39), (u12 40), (u12 41), (u12 42), (u12 43), (u12 44)] : List Value)[t]?).getD undef, ?_, (Ext.gr E14 E29), ?_⟩, ?_⟩
        · first | rfl | (simp only [Nat.cast_add, Nat.cast_one, Int.natCast_add, Int.natCast_one]; rfl)
        · exact ⟨by omega, AllTo.step hal (by assumption) (by simp_all [numOk, rlSg, inI, icmp, lssF, leqF])⟩
        · omega
      have c50' := c50
      (try simp only [icmp, Bool.and_eq_true, Bool.or_eq_true, Bool.and_eq_false_iff, Bool.or_eq_false_iff, Bool.not_eq_true', Bool.not_eq_false', decide_eq_true_eq, decide_eq_false_iff_not, beq_iff_eq, bne_iff_ne, beq_eq_false_iff_ne, bne_eq_false_iff_eq] at c50')
      refine wp_seq_k fun K61 hK61 => ?_
      refine wp_region_lit ?_
      refine q_is rfl rfl (does_icmp (p := kind) (q := 2) (.inl rfl) (ev rfl) (ev rfl)) (by dsimp only [List.set]; try rfl) ?_
      refine q_is rfl rfl (does_assign (u := (Bo (icmp .eql kind 2))) (ev rfl)) (by dsimp only [List.set]; try rfl) ?_
      refine wpList_nil (hK61 _ _ ?_)
      refine wp_cond_split (t := icmp .eql kind 2) (ev rfl) (fun c62 => ?_) (fun c62 => ?_)
      · have c62' := c62
        (try simp only [icmp, Bool.and_eq_true, Bool.or_eq_true, Bool.and_eq_false_iff, Bool.or_eq_false_iff, Bool.not_eq_true', Bool.not_eq_false', decide_eq_true_eq, decide_eq_false_iff_not, beq_iff_eq, bne_iff_ne, beq_eq_false_iff_ne, bne_eq_false_iff_eq] at c62')
        refine wp_skip (hK36 _ _ ?_)
        refine wp_cond_true ((ev (rfl : evl _ _ = .bool (icmp .eql kind 2))).trans (congrArg Value.bool c62)) ?_
        refine wp_seq_k fun K63 hK63 => ?_
        refine wp_region_lit ?_
        refine q_is rfl rfl (does_move (u := (.slice p_nums L_nums.length q_nums)) (ev rfl)) (by dsimp only [List.set]; try rfl) ?_
        refine q_is rfl rfl (does_move (u := (Iv (k : Int))) (ev rfl)) (by dsimp only [List.set]; try rfl) ?_
        refine seqd rfl rfl (does_indexSl (R := RF) (i := (k : Int)) (xs := L_nums) (e := el1) Try.underlying32 Try.sizeOf59 (ev rfl) (ev rfl) (Sl.ext hv_nums RF.mono X31) (by omega) hel1) ?_; rintro _ w30 ⟨b64, o65, _, rfl, hc67, ⟨r68, rfl, h69⟩, rfl⟩
        show wpList _ _ _ _ (fr [(Iv kind), (.slice p_nums L_nums.length q_nums), Ud, Ud, (u12 4), (Iv (k : Int)), (.slice p_nums L_nums.length q_nums), (Iv (L_nums.length : Int)), (Iv kind), (Iv (rlNum kind)), (Bo (icmp .neq (L_nums.length : Int) (rlNum kind))), (Iv (k : Int)), (.slice p_nums L_nums.length q_nums), (Iv (L_nums.length : Int)), (Bo (icmp .lss (k : Int) (L_nums.length : Int))), (u12 15), (u12 16), (.slice p_nums L_nums.length q_nums), (Iv (k : Int)), (Pt b23 o24), (Fl r27), (Bo (finF (cf .f32 r27))), (Bo (!(finF (cf .f32 r27)))), (Iv kind), (Bo (icmp .eql kind 2)), (Bo (icmp .eql kind 0)), (Bo (icmp .eql kind 1)), (Bo (icmp .eql kind 2)), (u12 28), (u12 29), (.slice p_nums L_nums.length q_nums), (Iv (k : Int)), (Pt b64 o65), (u12 33), (u12 34), (u12 35), (u12 36), (u12 37), (u12 38), (u12 39), (u12 40), (u12 41), (u12 42), (u12 43), (u12 44)]) _
        refine q_is rfl rfl (does_load (u := (Fl r68)) (ev rfl) Try.isAgg59 (Cells.at hc67 0 rfl)) (by dsimp only [List.set]; try rfl) ?_
        refine q_is rfl rfl (does_fcmp (.inr (.inr (.inl rfl))) (ev rfl) (ev rfl)) (by dsimp only [List.set]; try rfl) ?_
        refine wpList_nil (hK63 _ _ ?_)
        refine wp_cond_split (t := fcmp .lss (ford .f32 (cf .f32 r68) (cf .f32 0))) (ev rfl) (fun c70 => ?_) (fun c70 => ?_)
        · have c70' := c70
          refine wp_seq_k fun K71 hK71 => ?_
          refine wp_region_lit ?_
          refine q_is rfl rfl (does_assign (u := (Bo false)) (ev rfl)) (by dsimp only [List.set]; try rfl) ?_
          refine wpList_nil (hK71 _ _ ?_)
          refine wp_ret ?_
          dsimp only [Exit.then, Exit.inBlock]
          refine ret_val (v := (Bo false)) (res_T rfl (slot rfl)) X31 ?_
          try simp only [hel1, h28, h69] at c7 c19 c32 c38 c50 c62 c70
          have x72 : (nodeNums kind L_nums) = false := by first | exact nodeNums_len (by omega) | exact nodeNums_bad (by assumption) (by simp_all [numOk, rlSg, inI, icmp, lssF, leqF]) | exact nodeNums_ok (by omega) hal (by omega)
          exact (by first | rfl | rw [x72])
        have c70' := c70
        refine wp_skip (hK20 _ _ ?_)
        refine wp_region_lit ?_
        refine q_is rfl rfl (does_move (u := (Iv (k : Int))) (ev rfl)) (by dsimp only [List.set]; try rfl) ?_
        refine q_is rfl rfl (does_iarith (p := (k : Int)) (q := 1) (r := (k : Int) + 1) (ev rfl) (ev rfl) (.inl ⟨rfl, (in_i64 (by omega) (by omega)).symm⟩)) (by dsimp only [List.set]; try rfl) ?_
        refine q_is rfl rfl (does_assign (u := (Iv ((k : Int) + 1))) (ev rfl)) (by dsimp only [List.set]; try rfl) ?_
        refine wpList_nil ?_
        refine ⟨k + 1, ⟨fun t => (([(Iv kind), (.slice p_nums L_nums.length q_nums), Ud, Ud, (u12 4), (Iv ((k : Int) + 1)), (.slice p_nums L_nums.length q_nums), (Iv (L_nums.length : Int)), (Iv kind), (Iv (rlNum kind)), (Bo (icmp .neq (L_nums.length : Int) (rlNum kind))), (Iv (k : Int)), (.slice p_nums L_nums.length q_nums), (Iv (L_nums.length : Int)), (Bo (icmp .lss (k : Int) (L_nums.length : Int))), (Iv (k : Int)), (Iv ((k : Int) + 1)), (.slice p_nums L_nums.length q_nums), (Iv (k : Int)), (Pt b23 o24), (Fl r27), (Bo (finF (cf .f32 r27))), (Bo (!(finF (cf .f32 r27)))), (Iv kind), (Bo (icmp .eql kind 2)), (Bo (icmp .eql kind 0)), (Bo (icmp .eql kind 1)), (Bo (icmp .eql kind 2)), (u12 28), (u12 29), (.slice p_nums L_nums.length q_nums), (Iv (k : Int)), (Pt b64 o65), (Fl r68), (Bo (fcmp .lss (ford .f32 (cf .f32 r68) (cf .f32 0)))), (u12 35), (u12 36), (u12 37), (u12 38), (u12 39), (u12 40), (u12 41), (u12 42), (u12 43), (u12 44)] : List Value)[t]?).getD undef, ?_, (Ext.gr E14 E29), ?_⟩, ?_⟩
        · first | rfl | (simp only [Nat.cast_add, Nat.cast_one, Int.natCast_add, Int.natCast_one]; rfl)
        · exact ⟨by omega, AllTo.step hal (by assumption) (by simp_all [numOk, rlSg, inI, icmp, lssF, leqF])⟩
        · omega
      have c62' := c62
      (try simp only [icmp, Bool.and_eq_true, Bool.or_eq_true, Bool.and_eq_false_iff, Bool.or_eq_false_iff, Bool.not_eq_true', Bool.not_eq_false', decide_eq_true_eq, decide_eq_false_iff_not, beq_iff_eq, bne_iff_ne, beq_eq_false_iff_ne, bne_eq_false_iff_eq] at c62')
      refine wp_seq_k fun K73 hK73 => ?_
      refine wp_region_lit ?_
      refine q_is rfl rfl (does_icmp (p := kind) (q := 3) (.inl rfl) (ev rfl) (ev rfl)) (by dsimp only [List.set]; try rfl) ?_
      refine q_is rfl rfl (does_assign (u := (Bo (icmp .eql kind 3))) (ev rfl)) (by dsimp only [List.set]; try rfl) ?_
      refine wpList_nil (hK73 _ _ ?_)
      refine wp_cond_split (t := icmp .eql kind 3) (ev rfl) (fun c74 => ?_) (fun c74 => ?_)
      · have c74' := c74
        (try simp only [icmp, Bool.and_eq_true, Bool.or_eq_true, Bool.and_eq_false_iff, Bool.or_eq_false_iff, Bool.not_eq_true', Bool.not_eq_false', decide_eq_true_eq, decide_eq_false_iff_not, beq_iff_eq, bne_iff_ne, beq_eq_false_iff_ne, bne_eq_false_iff_eq] at c74')
        refine wp_skip (hK36 _ _ ?_)
        refine wp_cond_true ((ev (rfl : evl _ _ = .bool (icmp .eql kind 3))).trans (congrArg Value.bool c74)) ?_
        refine wp_seq_k fun K75 hK75 => ?_
        refine wp_region_lit ?_
        refine q_is rfl rfl (does_move (u := (.slice p_nums L_nums.length q_nums)) (ev rfl)) (by dsimp only [List.set]; try rfl) ?_
        refine q_is rfl rfl (does_move (u := (Iv (k : Int))) (ev rfl)) (by dsimp only [List.set]; try rfl) ?_
        refine seqd rfl rfl (does_indexSl (R := RF) (i := (k : Int)) (xs := L_nums) (e := el1) Try.underlying32 Try.sizeOf59 (ev rfl) (ev rfl) (Sl.ext hv_nums RF.mono X31) (by omega) hel1) ?_; rintro _ w30 ⟨b76, o77, _, rfl, hc79, ⟨r80, rfl, h81⟩, rfl⟩
        show wpList _ _ _ _ (fr [(Iv kind), (.slice p_nums L_nums.length q_nums), Ud, Ud, (u12 4), (Iv (k : Int)), (.slice p_nums L_nums.length q_nums), (Iv (L_nums.length : Int)), (Iv kind), (Iv (rlNum kind)), (Bo (icmp .neq (L_nums.length : Int) (rlNum kind))), (Iv (k : Int)), (.slice p_nums L_nums.length q_nums), (Iv (L_nums.length : Int)), (Bo (icmp .lss (k : Int) (L_nums.length : Int))), (u12 15), (u12 16), (.slice p_nums L_nums.length q_nums), (Iv (k : Int)), (Pt b23 o24), (Fl r27), (Bo (finF (cf .f32 r27))), (Bo (!(finF (cf .f32 r27)))), (Iv kind), (Bo (icmp .eql kind 3)), (Bo (icmp .eql kind 0)), (Bo (icmp .eql kind 1)), (Bo (icmp .eql kind 2)), (Bo (icmp .eql kind 3)), (u12 29), (.slice p_nums L_nums.length q_nums), (Iv (k : Int)), (Pt b76 o77), (u12 33), (u12 34), (u12 35), (u12 36), (u12 37), (u12 38), (u12 39), (u12 40), (u12 41), (u12 42), (u12 43), (u12 44)]) _
        refine q_is rfl rfl (does_load (u := (Fl r80)) (ev rfl) Try.isAgg59 (Cells.at hc79 0 rfl)) (by dsimp only [List.set]; try rfl) ?_
        refine q_is rfl rfl (does_fcmp (.inr (.inr (.inl rfl))) (ev rfl) (ev rfl)) (by dsimp only [List.set]; try rfl) ?_
        refine wpList_nil (hK75 _ _ ?_)
        refine wp_cond_split (t := fcmp .lss (ford .f32 (cf .f32 r80) (cf .f32 0))) (ev rfl) (fun c82 => ?_) (fun c82 => ?_)
        · have c82' := c82
          refine wp_seq_k fun K83 hK83 => ?_
          refine wp_region_lit ?_
          refine q_is rfl rfl (does_assign (u := (Bo false)) (ev rfl)) (by dsimp only [List.set]; try rfl) ?_
          refine wpList_nil (hK83 _ _ ?_)
          refine wp_ret ?_
          dsimp only [Exit.then, Exit.inBlock]
          refine ret_val (v := (Bo false)) (res_T rfl (slot rfl)) X31 ?_
          try simp only [hel1, h28, h81] at c7 c19 c32 c38 c50 c62 c74 c82
          have x84 : (nodeNums kind L_nums) = false := by first | exact nodeNums_len (by omega) | exact nodeNums_bad (by assumption) (by simp_all [numOk, rlSg, inI, icmp, lssF, leqF]) | exact nodeNums_ok (by omega) hal (by omega)
          exact (by first | rfl | rw [x84])
        have c82' := c82
        refine wp_skip (hK20 _ _ ?_)
        refine wp_region_lit ?_
        refine q_is rfl rfl (does_move (u := (Iv (k : Int))) (ev rfl)) (by dsimp only [List.set]; try rfl) ?_
        refine q_is rfl rfl (does_iarith (p := (k : Int)) (q := 1) (r := (k : Int) + 1) (ev rfl) (ev rfl) (.inl ⟨rfl, (in_i64 (by omega) (by omega)).symm⟩)) (by dsimp only [List.set]; try rfl) ?_
        refine q_is rfl rfl (does_assign (u := (Iv ((k : Int) + 1))) (ev rfl)) (by dsimp only [List.set]; try rfl) ?_
        refine wpList_nil ?_
        refine ⟨k + 1, ⟨fun t => (([(Iv kind), (.slice p_nums L_nums.length q_nums), Ud, Ud, (u12 4), (Iv ((k : Int) + 1)), (.slice p_nums L_nums.length q_nums), (Iv (L_nums.length : Int)), (Iv kind), (Iv (rlNum kind)), (Bo (icmp .neq (L_nums.length : Int) (rlNum kind))), (Iv (k : Int)), (.slice p_nums L_nums.length q_nums), (Iv (L_nums.length : Int)), (Bo (icmp .lss (k : Int) (L_nums.length : Int))), (Iv (k : Int)), (Iv ((k : Int) + 1)), (.slice p_nums L_nums.length q_nums), (Iv (k : Int)), (Pt b23 o24), (Fl r27), (Bo (finF (cf .f32 r27))), (Bo (!(finF (cf .f32 r27)))), (Iv kind), (Bo (icmp .eql kind 3)), (Bo (icmp .eql kind 0)), (Bo (icmp .eql kind 1)), (Bo (icmp .eql kind 2)), (Bo (icmp .eql kind 3)), (u12 29), (.slice p_nums L_nums.length q_nums), (Iv (k : Int)), (Pt b76 o77), (Fl r80), (Bo (fcmp .lss (ford .f32 (cf .f32 r80) (cf .f32 0)))), (u12 35), (u12 36), (u12 37), (u12 38), (u12 39), (u12 40), (u12 41), (u12 42), (u12 43), (u12 44)] : List Value)[t]?).getD undef, ?_, (Ext.gr E14 E29), ?_⟩, ?_⟩
        · first | rfl | (simp only [Nat.cast_add, Nat.cast_one, Int.natCast_add, Int.natCast_one]; rfl)
        · exact ⟨by omega, AllTo.step hal (by assumption) (by simp_all [numOk, rlSg, inI, icmp, lssF, leqF])⟩
        · omega
      have c74' := c74
      (try simp only [icmp, Bool.and_eq_true, Bool.or_eq_true, Bool.and_eq_false_iff, Bool.or_eq_false_iff, Bool.not_eq_true', Bool.not_eq_false', decide_eq_true_eq, decide_eq_false_iff_not, beq_iff_eq, bne_iff_ne, beq_eq_false_iff_ne, bne_eq_false_iff_eq] at c74')
      refine wp_region_lit ?_
      refine q_is rfl rfl (does_icmp (p := kind) (q := 16) (.inl rfl) (ev rfl) (ev rfl)) (by dsimp only [List.set]; try rfl) ?_
      refine q_is rfl rfl (does_assign (u := (Bo (icmp .eql kind 16))) (ev rfl)) (by dsimp only [List.set]; try rfl) ?_
      refine wpList_nil (hK36 _ _ ?_)
      refine wp_cond_split (t := icmp .eql kind 16) (ev rfl) (fun c85 => ?_) (fun c85 => ?_)
      · have c85' := c85
        (try simp only [icmp, Bool.and_eq_true, Bool.or_eq_true, Bool.and_eq_false_iff, Bool.or_eq_false_iff, Bool.not_eq_true', Bool.not_eq_false', decide_eq_true_eq, decide_eq_false_iff_not, beq_iff_eq, bne_iff_ne, beq_eq_false_iff_ne, bne_eq_false_iff_eq] at c85')
        refine wp_seq_k fun K86 hK86 => ?_
        refine wp_region_lit ?_
        refine q_is rfl rfl (does_move (u := (.slice p_nums L_nums.length q_nums)) (ev rfl)) (by dsimp only [List.set]; try rfl) ?_
        refine q_is rfl rfl (does_move (u := (Iv (k : Int))) (ev rfl)) (by dsimp only [List.set]; try rfl) ?_
        refine seqd rfl rfl (does_indexSl (R := RF) (i := (k : Int)) (xs := L_nums) (e := el1) Try.underlying32 Try.sizeOf59 (ev rfl) (ev rfl) (Sl.ext hv_nums RF.mono X31) (by omega) hel1) ?_; rintro _ w30 ⟨b87, o88, _, rfl, hc90, ⟨r91, rfl, h92⟩, rfl⟩
        show wpList _ _ _ _ (fr [(Iv kind), (.slice p_nums L_nums.length q_nums), Ud, Ud, (u12 4), (Iv (k : Int)), (.slice p_nums L_nums.length q_nums), (Iv (L_nums.length : Int)), (Iv kind), (Iv (rlNum kind)), (Bo (icmp .neq (L_nums.length : Int) (rlNum kind))), (Iv (k : Int)), (.slice p_nums L_nums.length q_nums), (Iv (L_nums.length : Int)), (Bo (icmp .lss (k : Int) (L_nums.length : Int))), (u12 15), (u12 16), (.slice p_nums L_nums.length q_nums), (Iv (k : Int)), (Pt b23 o24), (Fl r27), (Bo (finF (cf .f32 r27))), (Bo (!(finF (cf .f32 r27)))), (Iv kind), (Bo (icmp .eql kind 16)), (Bo (icmp .eql kind 0)), (Bo (icmp .eql kind 1)), (Bo (icmp .eql kind 2)), (Bo (icmp .eql kind 3)), (Bo (icmp .eql kind 16)), (.slice p_nums L_nums.length q_nums), (Iv (k : Int)), (Pt b87 o88), (u12 33), (u12 34), (u12 35), (u12 36), (u12 37), (u12 38), (u12 39), (u12 40), (u12 41), (u12 42), (u12 43), (u12 44)]) _
        refine q_is rfl rfl (does_load (u := (Fl r91)) (ev rfl) Try.isAgg59 (Cells.at hc90 0 rfl)) (by dsimp only [List.set]; try rfl) ?_
        refine q_is rfl rfl (does_fcmp (.inr (.inr (.inl rfl))) (ev rfl) (ev rfl)) (by dsimp only [List.set]; try rfl) ?_
        refine wpList_nil (hK86 _ _ ?_)
        refine wp_cond_split (t := fcmp .lss (ford .f32 (cf .f32 r91) (cf .f32 0))) (ev rfl) (fun c93 => ?_) (fun c93 => ?_)
        · have c93' := c93
          refine wp_seq_k fun K94 hK94 => ?_
          refine wp_region_lit ?_
          refine q_is rfl rfl (does_assign (u := (Bo false)) (ev rfl)) (by dsimp only [List.set]; try rfl) ?_
          refine wpList_nil (hK94 _ _ ?_)
          refine wp_ret ?_
          dsimp only [Exit.then, Exit.inBlock]
          refine ret_val (v := (Bo false)) (res_T rfl (slot rfl)) X31 ?_
          try simp only [hel1, h28, h92] at c7 c19 c32 c38 c50 c62 c74 c85 c93
          have x95 : (nodeNums kind L_nums) = false := by first | exact nodeNums_len (by omega) | exact nodeNums_bad (by assumption) (by simp_all [numOk, rlSg, inI, icmp, lssF, leqF]) | exact nodeNums_ok (by omega) hal (by omega)
          exact (by first | rfl | rw [x95])
        have c93' := c93
        refine wp_skip (hK20 _ _ ?_)
        refine wp_region_lit ?_
        refine q_is rfl rfl (does_move (u := (Iv (k : Int))) (ev rfl)) (by dsimp only [List.set]; try rfl) ?_
        refine q_is rfl rfl (does_iarith (p := (k : Int)) (q := 1) (r := (k : Int) + 1) (ev rfl) (ev rfl) (.inl ⟨rfl, (in_i64 (by omega) (by omega)).symm⟩)) (by dsimp only [List.set]; try rfl) ?_
        refine q_is rfl rfl (does_assign (u := (Iv ((k : Int) + 1))) (ev rfl)) (by dsimp only [List.set]; try rfl) ?_
        refine wpList_nil ?_
        refine ⟨k + 1, ⟨fun t => (([(Iv kind), (.slice p_nums L_nums.length q_nums), Ud, Ud, (u12 4), (Iv ((k : Int) + 1)), (.slice p_nums L_nums.length q_nums), (Iv (L_nums.length : Int)), (Iv kind), (Iv (rlNum kind)), (Bo (icmp .neq (L_nums.length : Int) (rlNum kind))), (Iv (k : Int)), (.slice p_nums L_nums.length q_nums), (Iv (L_nums.length : Int)), (Bo (icmp .lss (k : Int) (L_nums.length : Int))), (Iv (k : Int)), (Iv ((k : Int) + 1)), (.slice p_nums L_nums.length q_nums), (Iv (k : Int)), (Pt b23 o24), (Fl r27), (Bo (finF (cf .f32 r27))), (Bo (!(finF (cf .f32 r27)))), (Iv kind), (Bo (icmp .eql kind 16)), (Bo (icmp .eql kind 0)), (Bo (icmp .eql kind 1)), (Bo (icmp .eql kind 2)), (Bo (icmp .eql kind 3)), (Bo (icmp .eql kind 16)), (.slice p_nums L_nums.length q_nums), (Iv (k : Int)), (Pt b87 o88), (Fl r91), (Bo (fcmp .lss (ford .f32 (cf .f32 r91) (cf .f32 0)))), (u12 35), (u12 36), (u12 37), (u12 38), (u12 39), (u12 40), (u12 41), (u12 42), (u12 43), (u12 44)] : List Value)[t]?).getD undef, ?_, (Ext.gr E14 E29), ?_⟩, ?_⟩
        · first | rfl | (simp only [Nat.cast_add, Nat.cast_one, Int.natCast_add, Int.natCast_one]; rfl)
        · exact ⟨by omega, AllTo.step hal (by assumption) (by simp_all [numOk, rlSg, inI, icmp, lssF, leqF])⟩
        · omega
      have c85' := c85
      (try simp only [icmp, Bool.and_eq_true, Bool.or_eq_true, Bool.and_eq_false_iff, Bool.or_eq_false_iff, Bool.not_eq_true', Bool.not_eq_false', decide_eq_true_eq, decide_eq_false_iff_not, beq_iff_eq, bne_iff_ne, beq_eq_false_iff_ne, bne_eq_false_iff_eq] at c85')
      refine wp_seq_k fun K96 hK96 => ?_
      refine wp_seq_k fun K97 hK97 => ?_
      refine wp_region_lit ?_
      refine q_is rfl rfl (does_icmp (p := kind) (q := 8) (.inl rfl) (ev rfl) (ev rfl)) (by dsimp only [List.set]; try rfl) ?_
      refine q_is rfl rfl (does_assign (u := (Bo (icmp .eql kind 8))) (ev rfl)) (by dsimp only [List.set]; try rfl) ?_
      refine wpList_nil (hK97 _ _ ?_)
      refine wp_cond_split (t := icmp .eql kind 8) (ev rfl) (fun c98 => ?_) (fun c98 => ?_)
      · have c98' := c98
        (try simp only [icmp, Bool.and_eq_true, Bool.or_eq_true, Bool.and_eq_false_iff, Bool.or_eq_false_iff, Bool.not_eq_true', Bool.not_eq_false', decide_eq_true_eq, decide_eq_false_iff_not, beq_iff_eq, bne_iff_ne, beq_eq_false_iff_ne, bne_eq_false_iff_eq] at c98')
        refine wp_skip (hK96 _ _ ?_)
        refine wp_cond_true ((ev (rfl : evl _ _ = .bool (icmp .eql kind 8))).trans (congrArg Value.bool c98)) ?_
        refine wp_seq_k fun K99 hK99 => ?_
        refine wp_region_lit ?_
        refine q_is rfl rfl (does_move (u := (.slice p_nums L_nums.length q_nums)) (ev rfl)) (by dsimp only [List.set]; try rfl) ?_
        refine q_is rfl rfl (does_move (u := (Iv (k : Int))) (ev rfl)) (by dsimp only [List.set]; try rfl) ?_
        refine seqd rfl rfl (does_indexSl (R := RF) (i := (k : Int)) (xs := L_nums) (e := el1) Try.underlying32 Try.sizeOf59 (ev rfl) (ev rfl) (Sl.ext hv_nums RF.mono X31) (by omega) hel1) ?_; rintro _ w30 ⟨b100, o101, _, rfl, hc103, ⟨r104, rfl, h105⟩, rfl⟩
        show wpList _ _ _ _ (fr [(Iv kind), (.slice p_nums L_nums.length q_nums), Ud, Ud, (u12 4), (Iv (k : Int)), (.slice p_nums L_nums.length q_nums), (Iv (L_nums.length : Int)), (Iv kind), (Iv (rlNum kind)), (Bo (icmp .neq (L_nums.length : Int) (rlNum kind))), (Iv (k : Int)), (.slice p_nums L_nums.length q_nums), (Iv (L_nums.length : Int)), (Bo (icmp .lss (k : Int) (L_nums.length : Int))), (u12 15), (u12 16), (.slice p_nums L_nums.length q_nums), (Iv (k : Int)), (Pt b23 o24), (Fl r27), (Bo (finF (cf .f32 r27))), (Bo (!(finF (cf .f32 r27)))), (Iv kind), (Bo (icmp .eql kind 16)), (Bo (icmp .eql kind 0)), (Bo (icmp .eql kind 1)), (Bo (icmp .eql kind 2)), (Bo (icmp .eql kind 3)), (Bo (icmp .eql kind 16)), (u12 30), (u12 31), (u12 32), (u12 33), (u12 34), (Bo (icmp .eql kind 8)), (Bo (icmp .eql kind 8)), (u12 37), (u12 38), (u12 39), (.slice p_nums L_nums.length q_nums), (Iv (k : Int)), (Pt b100 o101), (u12 43), (u12 44)]) _
        refine q_is rfl rfl (does_load (u := (Fl r104)) (ev rfl) Try.isAgg59 (Cells.at hc103 0 rfl)) (by dsimp only [List.set]; try rfl) ?_
        refine q_is rfl rfl (does_fcmp (.inr (.inr (.inr (.inl rfl)))) (ev rfl) (ev rfl)) (by dsimp only [List.set]; try rfl) ?_
        refine wpList_nil (hK99 _ _ ?_)
        refine wp_cond_split (t := fcmp .leq (ford .f32 (cf .f32 r104) (cf .f32 0))) (ev rfl) (fun c106 => ?_) (fun c106 => ?_)
        · have c106' := c106
          refine wp_seq_k fun K107 hK107 => ?_
          refine wp_region_lit ?_
          refine q_is rfl rfl (does_assign (u := (Bo false)) (ev rfl)) (by dsimp only [List.set]; try rfl) ?_
          refine wpList_nil (hK107 _ _ ?_)
          refine wp_ret ?_
          dsimp only [Exit.then, Exit.inBlock]
          refine ret_val (v := (Bo false)) (res_T rfl (slot rfl)) X31 ?_
          try simp only [hel1, h28, h105] at c7 c19 c32 c38 c50 c62 c74 c85 c98 c106
          have x108 : (nodeNums kind L_nums) = false := by first | exact nodeNums_len (by omega) | exact nodeNums_bad (by assumption) (by simp_all [numOk, rlSg, inI, icmp, lssF, leqF]) | exact nodeNums_ok (by omega) hal (by omega)
          exact (by first | rfl | rw [x108])
        have c106' := c106
        refine wp_skip (hK20 _ _ ?_)
        refine wp_region_lit ?_
        refine q_is rfl rfl (does_move (u := (Iv (k : Int))) (ev rfl)) (by dsimp only [List.set]; try rfl) ?_
        refine q_is rfl rfl (does_iarith (p := (k : Int)) (q := 1) (r := (k : Int) + 1) (ev rfl) (ev rfl) (.inl ⟨rfl, (in_i64 (by omega) (by omega)).symm⟩)) (by dsimp only [List.set]; try rfl) ?_
        refine q_is rfl rfl (does_assign (u := (Iv ((k : Int) + 1))) (ev rfl)) (by dsimp only [List.set]; try rfl) ?_
        refine wpList_nil ?_
        refine ⟨k + 1, ⟨fun t => (([(Iv kind), (.slice p_nums L_nums.length q_nums), Ud, Ud, (u12 4), (Iv ((k : Int) + 1)), (.slice p_nums L_nums.length q_nums), (Iv (L_nums.length : Int)), (Iv kind), (Iv (rlNum kind)), (Bo (icmp .neq (L_nums.length : Int) (rlNum kind))), (Iv (k : Int)), (.slice p_nums L_nums.length q_nums), (Iv (L_nums.length : Int)), (Bo (icmp .lss (k : Int) (L_nums.length : Int))), (Iv (k : Int)), (Iv ((k : Int) + 1)), (.slice p_nums L_nums.length q_nums), (Iv (k : Int)), (Pt b23 o24), (Fl r27), (Bo (finF (cf .f32 r27))), (Bo (!(finF (cf .f32 r27)))), (Iv kind), (Bo (icmp .eql kind 16)), (Bo (icmp .eql kind 0)), (Bo (icmp .eql kind 1)), (Bo (icmp .eql kind 2)), (Bo (icmp .eql kind 3)), (Bo (icmp .eql kind 16)), (u12 30), (u12 31), (u12 32), (u12 33), (u12 34), (Bo (icmp .eql kind 8)), (Bo (icmp .eql kind 8)), (u12 37), (u12 38), (u12 39), (.slice p_nums L_nums.length q_nums), (Iv (k : Int)), (Pt b100 o101), (Fl r104), (Bo (fcmp .leq (ford .f32 (cf .f32 r104) (cf .f32 0))))] : List Value)[t]?).getD undef, ?_, (Ext.gr E14 E29), ?_⟩, ?_⟩
        · first | rfl | (simp only [Nat.cast_add, Nat.cast_one, Int.natCast_add, Int.natCast_one]; rfl)
        · exact ⟨by omega, AllTo.step hal (by assumption) (by simp_all [numOk, rlSg, inI, icmp, lssF, leqF])⟩
        · omega
      have c98' := c98
      (try simp only [icmp, Bool.and_eq_true, Bool.or_eq_true, Bool.and_eq_false_iff, Bool.or_eq_false_iff, Bool.not_eq_true', Bool.not_eq_false', decide_eq_true_eq, decide_eq_false_iff_not, beq_iff_eq, bne_iff_ne, beq_eq_false_iff_ne, bne_eq_false_iff_eq] at c98')
      refine wp_seq_k fun K109 hK109 => ?_
      refine wp_region_lit ?_
      refine q_is rfl rfl (does_icmp (p := kind) (q := 10) (.inl rfl) (ev rfl) (ev rfl)) (by dsimp only [List.set]; try rfl) ?_
      refine q_is rfl rfl (does_assign (u := (Bo (icmp .eql kind 10))) (ev rfl)) (by dsimp only [List.set]; try rfl) ?_
      refine wpList_nil (hK109 _ _ ?_)
      refine wp_cond_split (t := icmp .eql kind 10) (ev rfl) (fun c110 => ?_) (fun c110 => ?_)
      · have c110' := c110
        (try simp only [icmp, Bool.and_eq_true, Bool.or_eq_true, Bool.and_eq_false_iff, Bool.or_eq_false_iff, Bool.not_eq_true', Bool.not_eq_false', decide_eq_true_eq, decide_eq_false_iff_not, beq_iff_eq, bne_iff_ne, beq_eq_false_iff_ne, bne_eq_false_iff_eq] at c110')
        refine wp_skip (hK96 _ _ ?_)
        refine wp_cond_true ((ev (rfl : evl _ _ = .bool (icmp .eql kind 10))).trans (congrArg Value.bool c110)) ?_
        refine wp_seq_k fun K111 hK111 => ?_
        refine wp_region_lit ?_
        refine q_is rfl rfl (does_move (u := (.slice p_nums L_nums.length q_nums)) (ev rfl)) (by dsimp only [List.set]; try rfl) ?_
        refine q_is rfl rfl (does_move (u := (Iv (k : Int))) (ev rfl)) (by dsimp only [List.set]; try rfl) ?_
        refine seqd rfl rfl (does_indexSl (R := RF) (i := (k : Int)) (xs := L_nums) (e := el1) Try.underlying32 Try.sizeOf59 (ev rfl) (ev rfl) (Sl.ext hv_nums RF.mono X31) (by omega) hel1) ?_; rintro _ w30 ⟨b112, o113, _, rfl, hc115, ⟨r116, rfl, h117⟩, rfl⟩
        show wpList _ _ _ _ (fr [(Iv kind), (.slice p_nums L_nums.length q_nums), Ud, Ud, (u12 4), (Iv (k : Int)), (.slice p_nums L_nums.length q_nums), (Iv (L_nums.length : Int)), (Iv kind), (Iv (rlNum kind)), (Bo (icmp .neq (L_nums.length : Int) (rlNum kind))), (Iv (k : Int)), (.slice p_nums L_nums.length q_nums), (Iv (L_nums.length : Int)), (Bo (icmp .lss (k : Int) (L_nums.length : Int))), (u12 15), (u12 16), (.slice p_nums L_nums.length q_nums), (Iv (k : Int)), (Pt b23 o24), (Fl r27), (Bo (finF (cf .f32 r27))), (Bo (!(finF (cf .f32 r27)))), (Iv kind), (Bo (icmp .eql kind 16)), (Bo (icmp .eql kind 0)), (Bo (icmp .eql kind 1)), (Bo (icmp .eql kind 2)), (Bo (icmp .eql kind 3)), (Bo (icmp .eql kind 16)), (u12 30), (u12 31), (u12 32), (u12 33), (u12 34), (Bo (icmp .eql kind 10)), (Bo (icmp .eql kind 8)), (Bo (icmp .eql kind 10)), (u12 38), (u12 39), (.slice p_nums L_nums.length q_nums), (Iv (k : Int)), (Pt b112 o113), (u12 43), (u12 44)]) _
        refine q_is rfl rfl (does_load (u := (Fl r116)) (ev rfl) Try.isAgg59 (Cells.at hc115 0 rfl)) (by dsimp only [List.set]; try rfl) ?_
        refine q_is rfl rfl (does_fcmp (.inr (.inr (.inr (.inl rfl)))) (ev rfl) (ev rfl)) (by dsimp only [List.set]; try rfl) ?_
        refine wpList_nil (hK111 _ _ ?_)
        refine wp_cond_split (t := fcmp .leq (ford .f32 (cf .f32 r116) (cf .f32 0))) (ev rfl) (fun c118 => ?_) (fun c118 => ?_)
        · have c118' := c118
          refine wp_seq_k fun K119 hK119 => ?_
          refine wp_region_lit ?_
          refine q_is rfl rfl (does_assign (u := (Bo false)) (ev rfl)) (by dsimp only [List.set]; try rfl) ?_
          refine wpList_nil (hK119 _ _ ?_)
          refine wp_ret ?_
          dsimp only [Exit.then, Exit.inBlock]
          refine ret_val (v := (Bo false)) (res_T rfl (slot rfl)) X31 ?_
          try simp only [hel1, h28, h117] at c7 c19 c32 c38 c50 c62 c74 c85 c98 c110 c118
          have x120 : (nodeNums kind L_nums) = false := by first | exact nodeNums_len (by omega) | exact nodeNums_bad (by assumption) (by simp_all [numOk, rlSg, inI, icmp, lssF, leqF]) | exact nodeNums_ok (by omega) hal (by omega)
          exact (by first | rfl | rw [x120])
        have c118' := c118
        refine wp_skip (hK20 _ _ ?_)
        refine wp_region_lit ?_
        refine q_is rfl rfl (does_move (u := (Iv (k : Int))) (ev rfl)) (by dsimp only [List.set]; try rfl) ?_
        refine q_is rfl rfl (does_iarith (p := (k : Int)) (q := 1) (r := (k : Int) + 1) (ev rfl) (ev rfl) (.inl ⟨rfl, (in_i64 (by omega) (by omega)).symm⟩)) (by dsimp only [List.set]; try rfl) ?_
        refine q_is rfl rfl (does_assign (u := (Iv ((k : Int) + 1))) (ev rfl)) (by dsimp only [List.set]; try rfl) ?_
        refine wpList_nil ?_
        refine ⟨k + 1, ⟨fun t => (([(Iv kind), (.slice p_nums L_nums.length q_nums), Ud, Ud, (u12 4), (Iv ((k : Int) + 1)), (.slice p_nums L_nums.length q_nums), (Iv (L_nums.length : Int)), (Iv kind), (Iv (rlNum kind)), (Bo (icmp .neq (L_nums.length : Int) (rlNum kind))), (Iv (k : Int)), (.slice p_nums L_nums.length q_nums), (Iv (L_nums.length : Int)), (Bo (icmp .lss (k : Int) (L_nums.length : Int))), (Iv (k : Int)), (Iv ((k : Int) + 1)), (.slice p_nums L_nums.length q_nums), (Iv (k : Int)), (Pt b23 o24), (Fl r27), (Bo (finF (cf .f32 r27))), (Bo (!(finF (cf .f32 r27)))), (Iv kind), (Bo (icmp .eql kind 16)), (Bo (icmp .eql kind 0)), (Bo (icmp .eql kind 1)), (Bo (icmp .eql kind 2)), (Bo (icmp .eql kind 3)), (Bo (icmp .eql kind 16)), (u12 30), (u12 31), (u12 32), (u12 33), (u12 34), (Bo (icmp .eql kind 10)), (Bo (icmp .eql kind 8)), (Bo (icmp .eql kind 10)), (u12 38), (u12 39), (.slice p_nums L_nums.length q_nums), (Iv (k : Int)), (Pt b112 o113), (Fl r116), (Bo (fcmp .leq (ford .f32 (cf .f32 r116) (cf .f32 0))))] : List Value)[t]?).getD undef, ?_, (Ext.gr E14 E29), ?_⟩, ?_⟩
        · first | rfl | (simp only [Nat.cast_add, Nat.cast_one, Int.natCast_add, Int.natCast_one]; rfl)
        · exact ⟨by omega, AllTo.step hal (by assumption) (by simp_all [numOk, rlSg, inI, icmp, lssF, leqF])⟩
        · omega
      have c110' := c110
      (try simp only [icmp, Bool.and_eq_true, Bool.or_eq_true, Bool.and_eq_false_iff, Bool.or_eq_false_iff, Bool.not_eq_true', Bool.not_eq_false', decide_eq_true_eq, decide_eq_false_iff_not, beq_iff_eq, bne_iff_ne, beq_eq_false_iff_ne, bne_eq_false_iff_eq] at c110')
      refine wp_seq_k fun K121 hK121 => ?_
      refine wp_region_lit ?_
      refine q_is rfl rfl (does_icmp (p := kind) (q := 11) (.inl rfl) (ev rfl) (ev rfl)) (by dsimp only [List.set]; try rfl) ?_
      refine q_is rfl rfl (does_assign (u := (Bo (icmp .eql kind 11))) (ev rfl)) (by dsimp only [List.set]; try rfl) ?_
      refine wpList_nil (hK121 _ _ ?_)
      refine wp_cond_split (t := icmp .eql kind 11) (ev rfl) (fun c122 => ?_) (fun c122 => ?_)
      · have c122' := c122
        (try simp only [icmp, Bool.and_eq_true, Bool.or_eq_true, Bool.and_eq_false_iff, Bool.or_eq_false_iff, Bool.not_eq_true', Bool.not_eq_false', decide_eq_true_eq, decide_eq_false_iff_not, beq_iff_eq, bne_iff_ne, beq_eq_false_iff_ne, bne_eq_false_iff_eq] at c122')
        refine wp_skip (hK96 _ _ ?_)
        refine wp_cond_true ((ev (rfl : evl _ _ = .bool (icmp .eql kind 11))).trans (congrArg Value.bool c122)) ?_
        refine wp_seq_k fun K123 hK123 => ?_
        refine wp_region_lit ?_
        refine q_is rfl rfl (does_move (u := (.slice p_nums L_nums.length q_nums)) (ev rfl)) (by dsimp only [List.set]; try rfl) ?_
        refine q_is rfl rfl (does_move (u := (Iv (k : Int))) (ev rfl)) (by dsimp only [List.set]; try rfl) ?_
        refine seqd rfl rfl (does_indexSl (R := RF) (i := (k : Int)) (xs := L_nums) (e := el1) Try.underlying32 Try.sizeOf59 (ev rfl) (ev rfl) (Sl.ext hv_nums RF.mono X31) (by omega) hel1) ?_; rintro _ w30 ⟨b124, o125, _, rfl, hc127, ⟨r128, rfl, h129⟩, rfl⟩
        show wpList _ _ _ _ (fr [(Iv kind), (.slice p_nums L_nums.length q_nums), Ud, Ud, (u12 4), (Iv (k : Int)), (.slice p_nums L_nums.length q_nums), (Iv (L_nums.length : Int)), (Iv kind), (Iv (rlNum kind)), (Bo (icmp .neq (L_nums.length : Int) (rlNum kind))), (Iv (k : Int)), (.slice p_nums L_nums.length q_nums), (Iv (L_nums.length : Int)), (Bo (icmp .lss (k : Int) (L_nums.length : Int))), (u12 15), (u12 16), (.slice p_nums L_nums.length q_nums), (Iv (k : Int)), (Pt b23 o24), (Fl r27), (Bo (finF (cf .f32 r27))), (Bo (!(finF (cf .f32 r27)))), (Iv kind), (Bo (icmp .eql kind 16)), (Bo (icmp .eql kind 0)), (Bo (icmp .eql kind 1)), (Bo (icmp .eql kind 2)), (Bo (icmp .eql kind 3)), (Bo (icmp .eql kind 16)), (u12 30), (u12 31), (u12 32), (u12 33), (u12 34), (Bo (icmp .eql kind 11)), (Bo (icmp .eql kind 8)), (Bo (icmp .eql kind 10)), (Bo (icmp .eql kind 11)), (u12 39), (.slice p_nums L_nums.length q_nums), (Iv (k : Int)), (Pt b124 o125), (u12 43), (u12 44)]) _
        refine q_is rfl rfl (does_load (u := (Fl r128)) (ev rfl) Try.isAgg59 (Cells.at hc127 0 rfl)) (by dsimp only [List.set]; try rfl) ?_
        refine q_is rfl rfl (does_fcmp (.inr (.inr (.inr (.inl rfl)))) (ev rfl) (ev rfl)) (by dsimp only [List.set]; try rfl) ?_
        refine wpList_nil (hK123 _ _ ?_)
        refine wp_cond_split (t := fcmp .leq (ford .f32 (cf .f32 r128) (cf .f32 0))) (ev rfl) (fun c130 => ?_) (fun c130 => ?_)
        · have c130' := c130
          refine wp_seq_k fun K131 hK131 => ?_
          refine wp_region_lit ?_
          refine q_is rfl rfl (does_assign (u := (Bo false)) (ev rfl)) (by dsimp only [List.set]; try rfl) ?_
          refine wpList_nil (hK131 _ _ ?_)
          refine wp_ret ?_
          dsimp only [Exit.then, Exit.inBlock]
          refine ret_val (v := (Bo false)) (res_T rfl (slot rfl)) X31 ?_
          try simp only [hel1, h28, h129] at c7 c19 c32 c38 c50 c62 c74 c85 c98 c110 c122 c130
          have x132 : (nodeNums kind L_nums) = false := by first | exact nodeNums_len (by omega) | exact nodeNums_bad (by assumption) (by simp_all [numOk, rlSg, inI, icmp, lssF, leqF]) | exact nodeNums_ok (by omega) hal (by omega)
          exact (by first | rfl | rw [x132])
        have c130' := c130
        refine wp_skip (hK20 _ _ ?_)
        refine wp_region_lit ?_
        refine q_is rfl rfl (does_move (u := (Iv (k : Int))) (ev rfl)) (by dsimp only [List.set]; try rfl) ?_
        refine q_is rfl rfl (does_iarith (p := (k : Int)) (q := 1) (r := (k : Int) + 1) (ev rfl) (ev rfl) (.inl ⟨rfl, (in_i64 (by omega) (by omega)).symm⟩)) (by dsimp only [List.set]; try rfl) ?_
        refine q_is rfl rfl (does_assign (u := (Iv ((k : Int) + 1))) (ev rfl)) (by dsimp only [List.set]; try rfl) ?_
        refine wpList_nil ?_
        refine ⟨k + 1, ⟨fun t => (([(Iv kind), (.slice p_nums L_nums.length q_nums), Ud, Ud, (u12 4), (Iv ((k : Int) + 1)), (.slice p_nums L_nums.length q_nums), (Iv (L_nums.length : Int)), (Iv kind), (Iv (rlNum kind)), (Bo (icmp .neq (L_nums.length : Int) (rlNum kind))), (Iv (k : Int)), (.slice p_nums L_nums.length q_nums), (Iv (L_nums.length : Int)), (Bo (icmp .lss (k : Int) (L_nums.length : Int))), (Iv (k : Int)), (Iv ((k : Int) + 1)), (.slice p_nums L_nums.length q_nums), (Iv (k : Int)), (Pt b23 o24), (Fl r27), (Bo (finF (cf .f32 r27))), (Bo (!(finF (cf .f32 r27)))), (Iv kind), (Bo (icmp .eql kind 16)), (Bo (icmp .eql kind 0)), (Bo (icmp .eql kind 1)), (Bo (icmp .eql kind 2)), (Bo (icmp .eql kind 3)), (Bo (icmp .eql kind 16)), (u12 30), (u12 31), (u12 32), (u12 33), (u12 34), (Bo (icmp .eql kind 11)), (Bo (icmp .eql kind 8)), (Bo (icmp .eql kind 10)), (Bo (icmp .eql kind 11)), (u12 39), (.slice p_nums L_nums.length q_nums), (Iv (k : Int)), (Pt b124 o125), (Fl r128), (Bo (fcmp .leq (ford .f32 (cf .f32 r128) (cf .f32 0))))] : List Value)[t]?).getD undef, ?_, (Ext.gr E14 E29), ?_⟩, ?_⟩
        · first | rfl | (simp only [Nat.cast_add, Nat.cast_one, Int.natCast_add, Int.natCast_one]; rfl)
        · exact ⟨by omega, AllTo.step hal (by assumption) (by simp_all [numOk, rlSg, inI, icmp, lssF, leqF])⟩
        · omega
      have c122' := c122
      (try simp only [icmp, Bool.and_eq_true, Bool.or_eq_true, Bool.and_eq_false_iff, Bool.or_eq_false_iff, Bool.not_eq_true', Bool.not_eq_false', decide_eq_true_eq, decide_eq_false_iff_not, beq_iff_eq, bne_iff_ne, beq_eq_false_iff_ne, bne_eq_false_iff_eq] at c122')
      refine wp_region_lit ?_
      refine q_is rfl rfl (does_icmp (p := kind) (q := 14) (.inl rfl) (ev rfl) (ev rfl)) (by dsimp only [List.set]; try rfl) ?_
      refine q_is rfl rfl (does_assign (u := (Bo (icmp .eql kind 14))) (ev rfl)) (by dsimp only [List.set]; try rfl) ?_
      refine wpList_nil (hK96 _ _ ?_)
      refine wp_cond_split (t := icmp .eql kind 14) (ev rfl) (fun c133 => ?_) (fun c133 => ?_)
      · have c133' := c133
        (try simp only [icmp, Bool.and_eq_true, Bool.or_eq_true, Bool.and_eq_false_iff, Bool.or_eq_false_iff, Bool.not_eq_true', Bool.not_eq_false', decide_eq_true_eq, decide_eq_false_iff_not, beq_iff_eq, bne_iff_ne, beq_eq_false_iff_ne, bne_eq_false_iff_eq] at c133')
        refine wp_seq_k fun K134 hK134 => ?_
        refine wp_region_lit ?_
        refine q_is rfl rfl (does_move (u := (.slice p_nums L_nums.length q_nums)) (ev rfl)) (by dsimp only [List.set]; try rfl) ?_
        refine q_is rfl rfl (does_move (u := (Iv (k : Int))) (ev rfl)) (by dsimp only [List.set]; try rfl) ?_
        refine seqd rfl rfl (does_indexSl (R := RF) (i := (k : Int)) (xs := L_nums) (e := el1) Try.underlying32 Try.sizeOf59 (ev rfl) (ev rfl) (Sl.ext hv_nums RF.mono X31) (by omega) hel1) ?_; rintro _ w30 ⟨b135, o136, _, rfl, hc138, ⟨r139, rfl, h140⟩, rfl⟩
        show wpList _ _ _ _ (fr [(Iv kind), (.slice p_nums L_nums.length q_nums), Ud, Ud, (u12 4), (Iv (k : Int)), (.slice p_nums L_nums.length q_nums), (Iv (L_nums.length : Int)), (Iv kind), (Iv (rlNum kind)), (Bo (icmp .neq (L_nums.length : Int) (rlNum kind))), (Iv (k : Int)), (.slice p_nums L_nums.length q_nums), (Iv (L_nums.length : Int)), (Bo (icmp .lss (k : Int) (L_nums.length : Int))), (u12 15), (u12 16), (.slice p_nums L_nums.length q_nums), (Iv (k : Int)), (Pt b23 o24), (Fl r27), (Bo (finF (cf .f32 r27))), (Bo (!(finF (cf .f32 r27)))), (Iv kind), (Bo (icmp .eql kind 16)), (Bo (icmp .eql kind 0)), (Bo (icmp .eql kind 1)), (Bo (icmp .eql kind 2)), (Bo (icmp .eql kind 3)), (Bo (icmp .eql kind 16)), (u12 30), (u12 31), (u12 32), (u12 33), (u12 34), (Bo (icmp .eql kind 14)), (Bo (icmp .eql kind 8)), (Bo (icmp .eql kind 10)), (Bo (icmp .eql kind 11)), (Bo (icmp .eql kind 14)), (.slice p_nums L_nums.length q_nums), (Iv (k : Int)), (Pt b135 o136), (u12 43), (u12 44)]) _
        refine q_is rfl rfl (does_load (u := (Fl r139)) (ev rfl) Try.isAgg59 (Cells.at hc138 0 rfl)) (by dsimp only [List.set]; try rfl) ?_
        refine q_is rfl rfl (does_fcmp (.inr (.inr (.inr (.inl rfl)))) (ev rfl) (ev rfl)) (by dsimp only [List.set]; try rfl) ?_
        refine wpList_nil (hK134 _ _ ?_)
        refine wp_cond_split (t := fcmp .leq (ford .f32 (cf .f32 r139) (cf .f32 0))) (ev rfl) (fun c141 => ?_) (fun c141 => ?_)
        · have c141' := c141
          refine wp_seq_k fun K142 hK142 => ?_
          refine wp_region_lit ?_
          refine q_is rfl rfl (does_assign (u := (Bo false)) (ev rfl)) (by dsimp only [List.set]; try rfl) ?_
          refine wpList_nil (hK142 _ _ ?_)
          refine wp_ret ?_
          dsimp only [Exit.then, Exit.inBlock]
          refine ret_val (v := (Bo false)) (res_T rfl (slot rfl)) X31 ?_
          try simp only [hel1, h28, h140] at c7 c19 c32 c38 c50 c62 c74 c85 c98 c110 c122 c133 c141
          have x143 : (nodeNums kind L_nums) = false := by first | exact nodeNums_len (by omega) | exact nodeNums_bad (by assumption) (by simp_all [numOk, rlSg, inI, icmp, lssF, leqF]) | exact nodeNums_ok (by omega) hal (by omega)
          exact (by first | rfl | rw [x143])
        have c141' := c141
        refine wp_skip (hK20 _ _ ?_)
        refine wp_region_lit ?_
        refine q_is rfl rfl (does_move (u := (Iv (k : Int))) (ev rfl)) (by dsimp only [List.set]; try rfl) ?_
        refine q_is rfl rfl (does_iarith (p := (k : Int)) (q := 1) (r := (k : Int) + 1) (ev rfl) (ev rfl) (.inl ⟨rfl, (in_i64 (by omega) (by omega)).symm⟩)) (by dsimp only [List.set]; try rfl) ?_
        refine q_is rfl rfl (does_assign (u := (Iv ((k : Int) + 1))) (ev rfl)) (by dsimp only [List.set]; try rfl) ?_
        refine wpList_nil ?_
        refine ⟨k + 1, ⟨fun t => (([(Iv kind), (.slice p_nums L_nums.length q_nums), Ud, Ud, (u12 4), (Iv ((k : Int) + 1)), (.slice p_nums L_nums.length q_nums), (Iv (L_nums.length : Int)), (Iv kind), (Iv (rlNum kind)), (Bo (icmp .neq (L_nums.length : Int) (rlNum kind))), (Iv (k : Int)), (.slice p_nums L_nums.length q_nums), (Iv (L_nums.length : Int)), (Bo (icmp .lss (k : Int) (L_nums.length : Int))), (Iv (k : Int)), (Iv ((k : Int) + 1)), (.slice p_nums L_nums.length q_nums), (Iv (k : Int)), (Pt b23 o24), (Fl r27), (Bo (finF (cf .f32 r27))), (Bo (!(finF (cf .f32 r27)))), (Iv kind), (Bo (icmp .eql kind 16)), (Bo (icmp .eql kind 0)), (Bo (icmp .eql kind 1)), (Bo (icmp .eql kind 2)), (Bo (icmp .eql kind 3)), (Bo (icmp .eql kind 16)), (u12 30), (u12 31), (u12 32), (u12 33), (u12 34), (Bo (icmp .eql kind 14)), (Bo (icmp .eql kind 8)), (Bo (icmp .eql kind 10)), (Bo (icmp .eql kind 11)), (Bo (icmp .eql kind 14)), (.slice p_nums L_nums.length q_nums), (Iv (k : Int)), (Pt b135 o136), (Fl r139), (Bo (fcmp .leq (ford .f32 (cf .f32 r139) (cf .f32 0))))] : List Value)[t]?).getD undef, ?_, (Ext.gr E14 E29), ?_⟩, ?_⟩
        · first | rfl | (simp only [Nat.cast_add, Nat.cast_one, Int.natCast_add, Int.natCast_one]; rfl)
        · exact ⟨by omega, AllTo.step hal (by assumption) (by simp_all [numOk, rlSg, inI, icmp, lssF, leqF])⟩
        · omega
      have c133' := c133
      (try simp only [icmp, Bool.and_eq_true, Bool.or_eq_true, Bool.and_eq_false_iff, Bool.or_eq_false_iff, Bool.not_eq_true', Bool.not_eq_false', decide_eq_true_eq, decide_eq_false_iff_not, beq_iff_eq, bne_iff_ne, beq_eq_false_iff_ne, bne_eq_false_iff_eq] at c133')
      refine wp_skip (hK20 _ _ ?_)
      refine wp_region_lit ?_
      refine q_is rfl rfl (does_move (u := (Iv (k : Int))) (ev rfl)) (by dsimp only [List.set]; try rfl) ?_
      refine q_is rfl rfl (does_iarith (p := (k : Int)) (q := 1) (r := (k : Int) + 1) (ev rfl) (ev rfl) (.inl ⟨rfl, (in_i64 (by omega) (by omega)).symm⟩)) (by dsimp only [List.set]; try rfl) ?_
      refine q_is rfl rfl (does_assign (u := (Iv ((k : Int) + 1))) (ev rfl)) (by dsimp only [List.set]; try rfl) ?_
      refine wpList_nil ?_
      refine ⟨k + 1, ⟨fun t => (([(Iv kind), (.slice p_nums L_nums.length q_nums), Ud, Ud, (u12 4), (Iv ((k : Int) + 1)), (.slice p_nums L_nums.length q_nums), (Iv (L_nums.length : Int)), (Iv kind), (Iv (rlNum kind)), (Bo (icmp .neq (L_nums.length : Int) (rlNum kind))), (Iv (k : Int)), (.slice p_nums L_nums.length q_nums), (Iv (L_nums.length : Int)), (Bo (icmp .lss (k : Int) (L_nums.length : Int))), (Iv (k : Int)), (Iv ((k : Int) + 1)), (.slice p_nums L_nums.length q_nums), (Iv (k : Int)), (Pt b23 o24), (Fl r27), (Bo (finF (cf .f32 r27))), (Bo (!(finF (cf .f32 r27)))), (Iv kind), (Bo (icmp .eql kind 16)), (Bo (icmp .eql kind 0)), (Bo (icmp .eql kind 1)), (Bo (icmp .eql kind 2)), (Bo (icmp .eql kind 3)), (Bo (icmp .eql kind 16)), (u12 30), (u12 31), (u12 32), (u12 33), (u12 34), (Bo (icmp .eql kind 14)), (Bo (icmp .eql kind 8)), (Bo (icmp .eql kind 10)), (Bo (icmp .eql kind 11)), (Bo (icmp .eql kind 14)), (u12 40), (u12 41), (u12 42), (u12 43), (u12 44)] : List Value)[t]?).getD undef, ?_, (Ext.gr E14 E29), ?_⟩, ?_⟩
      · first | rfl | (simp only [Nat.cast_add, Nat.cast_one, Int.natCast_add, Int.natCast_one]; rfl)
      · exact ⟨by omega, AllTo.step hal (by assumption) (by simp_all [numOk, rlSg, inI, icmp, lssF, leqF])⟩
      · omega
    have c19' := c19
    (try simp only [icmp, Bool.and_eq_true, Bool.or_eq_true, Bool.and_eq_false_iff, Bool.or_eq_false_iff, Bool.not_eq_true', Bool.not_eq_false', decide_eq_true_eq, decide_eq_false_iff_not, beq_iff_eq, bne_iff_ne, beq_eq_false_iff_ne, bne_eq_false_iff_eq] at c19')
    refine wp_exit ?_
    refine hK10 _ _ ?_
    refine wp_seq_k fun K144 hK144 => ?_
    refine wp_region_lit ?_
    refine q_is rfl rfl (does_assign (u := (Bo true)) (ev rfl)) (by dsimp only [List.set]; try rfl) ?_
    refine wpList_nil (hK144 _ _ ?_)
    refine wp_ret ?_
    refine ret_val (v := (Bo true)) (res_T rfl (slot rfl)) X16 ?_
    have x145 : (nodeNums kind L_nums) = true := by first | exact nodeNums_len (by omega) | exact nodeNums_bad (by assumption) (by simp_all [numOk, rlSg, inI, icmp, lssF, leqF]) | exact nodeNums_ok (by omega) hal (by omega)
    exact (by first | rfl | rw [x145])

/- spec.l05All -/
theorem c_spec_l05All (xs : Value) (L_xs : List Nat) (y_ : Nat) (w : World) (hv_xs : Sl RF 1 w xs L_xs) : Gives Try.prog 35 #[xs, (Fl y_)] w (fun v w' => v = (Bo (alS L_xs (cf .f32 y_)))) := by
  have hlen_xs := Sl.len hv_xs; obtain ⟨p_xs, q_xs, rfl⟩ := Sl.shape hv_xs
  refine enter [(.slice p_xs L_xs.length q_xs), (Fl y_), Ud, Ud, Ud, Ud, Ud, Ud, Ud, Ud, Ud, Ud, Ud, Ud, Ud, Ud, Ud, Ud, Ud] Try.func35 rfl Try.ntmps35 rfl ?_
  refine wp_seq_k fun K1 hK1 => ?_
  refine wp_region_lit ?_
  refine q_is (l' := [(.slice p_xs L_xs.length q_xs), (Fl y_), Ud, Ud, (Bo false), Ud, Ud, Ud, Ud, Ud, Ud, Ud, Ud, Ud, Ud, Ud, Ud, Ud, Ud]) rfl rfl (does_assign (u := (Bo false)) (ev rfl)) rfl ?_
  refine wpList_nil (hK1 _ _ ?_)
  refine wp_seq_k fun K2 hK2 => ?_
  refine wp_seq_k fun K3 hK3 => ?_
  refine wp_region_lit ?_
  refine q_is (l' := [(.slice p_xs L_xs.length q_xs), (Fl y_), Ud, Ud, (Bo false), Ud, (.slice p_xs L_xs.length q_xs), Ud, Ud, Ud, Ud, Ud, Ud, Ud, Ud, Ud, Ud, Ud, Ud]) rfl rfl (does_move (u := (.slice p_xs L_xs.length q_xs)) (ev rfl)) rfl ?_
  refine q_is (l' := [(.slice p_xs L_xs.length q_xs), (Fl y_), Ud, Ud, (Bo false), Ud, (.slice p_xs L_xs.length q_xs), (Iv (L_xs.length : Int)), Ud, Ud, Ud, Ud, Ud, Ud, Ud, Ud, Ud, Ud, Ud]) rfl rfl (does_len_slice Try.underlying32 (ev rfl)) rfl ?_
  refine q_is (l' := [(.slice p_xs L_xs.length q_xs), (Fl y_), Ud, Ud, (Bo false), Ud, (.slice p_xs L_xs.length q_xs), (Iv (L_xs.length : Int)), (Iv 0), Ud, Ud, Ud, Ud, Ud, Ud, Ud, Ud, Ud, Ud]) rfl rfl (does_move (u := (Iv 0)) (ev rfl)) rfl ?_
  refine wpList_nil (hK3 _ _ ?_)
  refine wp_block ?_
  refine loop_ghost (σ := Nat) (fun k a w' => ∃ u4 : Nat → Value, a = fr [(.slice p_xs L_xs.length q_xs), (Fl y_), Ud, Ud, (u4 4), (u4 5), (.slice p_xs L_xs.length q_xs), (Iv (L_xs.length : Int)), (Iv (k : Int)), (u4 9), (u4 10), (u4 11), (u4 12), (u4 13), (u4 14), (u4 15), (u4 16), (u4 17), (u4 18)] ∧ Ext w w' ∧ (k ≤ L_xs.length ∧ AllTo (fun z => sBits z (cf .f32 y_)) L_xs k)) (fun k => L_xs.length - k) 0 ?_ ?_
  · refine ⟨fun t => (([(.slice p_xs L_xs.length q_xs), (Fl y_), Ud, Ud, (Bo false), Ud, (.slice p_xs L_xs.length q_xs), (Iv (L_xs.length : Int)), (Iv 0), Ud, Ud, Ud, Ud, Ud, Ud, Ud, Ud, Ud, Ud] : List Value)[t]?).getD undef, rfl, Ext.refl _, ?_⟩
    exact ⟨Nat.zero_le _, AllTo.zero⟩
  · rintro k a w5 ⟨u4, rfl, E6, ⟨hk, hal⟩⟩
    have X8 := Ext.gr (Ext.refl w) E6
    refine wp_seq_k fun K9 hK9 => ?_
    refine wp_region_lit ?_
    refine q_is (l' := [(.slice p_xs L_xs.length q_xs), (Fl y_), Ud, Ud, (u4 4), (u4 5), (.slice p_xs L_xs.length q_xs), (Iv (L_xs.length : Int)), (Iv (k : Int)), (Bo (icmp .lss (k : Int) (L_xs.length : Int))), (u4 10), (u4 11), (u4 12), (u4 13), (u4 14), (u4 15), (u4 16), (u4 17), (u4 18)]) rfl rfl (does_icmp (p := (k : Int)) (q := (L_xs.length : Int)) (.inr (.inr (.inl rfl))) (ev rfl) (ev rfl)) rfl ?_
    refine wpList_nil (hK9 _ _ ?_)
    refine wp_seq_k fun K10 hK10 => ?_
    refine wp_cond_split (t := icmp .lss (k : Int) (L_xs.length : Int)) (ev rfl) (fun c11 => ?_) (fun c11 => ?_)
    · have c11' := c11
      (try simp only [icmp, Bool.and_eq_true, Bool.or_eq_true, Bool.and_eq_false_iff, Bool.or_eq_false_iff, Bool.not_eq_true', Bool.not_eq_false', decide_eq_true_eq, decide_eq_false_iff_not, beq_iff_eq, bne_iff_ne, beq_eq_false_iff_ne, bne_eq_false_iff_eq] at c11')
      refine wp_skip (hK10 _ _ ?_)
      refine wp_seq_k fun K12 hK12 => ?_
      refine wp_block ?_
      refine wp_seq_k fun K13 hK13 => ?_
      refine wp_region_lit ?_
      refine q_is (l' := [(.slice p_xs L_xs.length q_xs), (Fl y_), Ud, Ud, (u4 4), (u4 5), (.slice p_xs L_xs.length q_xs), (Iv (L_xs.length : Int)), (Iv (k : Int)), (Bo (icmp .lss (k : Int) (L_xs.length : Int))), (Iv (k : Int)), (u4 11), (u4 12), (u4 13), (u4 14), (u4 15), (u4 16), (u4 17), (u4 18)]) rfl rfl (does_move (u := (Iv (k : Int))) (ev rfl)) rfl ?_
      refine q_is (l' := [(.slice p_xs L_xs.length q_xs), (Fl y_), Ud, Ud, (u4 4), (Iv (k : Int)), (.slice p_xs L_xs.length q_xs), (Iv (L_xs.length : Int)), (Iv (k : Int)), (Bo (icmp .lss (k : Int) (L_xs.length : Int))), (Iv (k : Int)), (u4 11), (u4 12), (u4 13), (u4 14), (u4 15), (u4 16), (u4 17), (u4 18)]) rfl rfl (does_assign (u := (Iv (k : Int))) (ev rfl)) rfl ?_
      refine wpList_nil (hK13 _ _ ?_)
      refine wp_seq_k fun K14 hK14 => ?_
      refine wp_region_lit ?_
      refine q_is (l' := [(.slice p_xs L_xs.length q_xs), (Fl y_), Ud, Ud, (u4 4), (Iv (k : Int)), (.slice p_xs L_xs.length q_xs), (Iv (L_xs.length : Int)), (Iv (k : Int)), (Bo (icmp .lss (k : Int) (L_xs.length : Int))), (Iv (k : Int)), (.slice p_xs L_xs.length q_xs), (u4 12), (u4 13), (u4 14), (u4 15), (u4 16), (u4 17), (u4 18)]) rfl rfl (does_move (u := (.slice p_xs L_xs.length q_xs)) (ev rfl)) rfl ?_
      refine q_is (l' := [(.slice p_xs L_xs.length q_xs), (Fl y_), Ud, Ud, (u4 4), (Iv (k : Int)), (.slice p_xs L_xs.length q_xs), (Iv (L_xs.length : Int)), (Iv (k : Int)), (Bo (icmp .lss (k : Int) (L_xs.length : Int))), (Iv (k : Int)), (.slice p_xs L_xs.length q_xs), (Iv (k : Int)), (u4 13), (u4 14), (u4 15), (u4 16), (u4 17), (u4 18)]) rfl rfl (does_move (u := (Iv (k : Int))) (ev rfl)) rfl ?_
      obtain ⟨el1, hel1⟩ : ∃ e, L_xs[k]? = some e := ⟨_, List.getElem?_eq_getElem (by omega)⟩
      refine seqd rfl rfl (does_indexSl (R := RF) (i := (k : Int)) (xs := L_xs) (e := el1) Try.underlying32 Try.sizeOf59 (ev rfl) (ev rfl) (Sl.ext hv_xs RF.mono X8) (by omega) hel1) ?_; rintro _ w5 ⟨b15, o16, _, rfl, hc18, ⟨r19, rfl, h20⟩, rfl⟩
      show wpList _ _ _ _ (fr [(.slice p_xs L_xs.length q_xs), (Fl y_), Ud, Ud, (u4 4), (Iv (k : Int)), (.slice p_xs L_xs.length q_xs), (Iv (L_xs.length : Int)), (Iv (k : Int)), (Bo (icmp .lss (k : Int) (L_xs.length : Int))), (Iv (k : Int)), (.slice p_xs L_xs.length q_xs), (Iv (k : Int)), (Pt b15 o16), (u4 14), (u4 15), (u4 16), (u4 17), (u4 18)]) _
      refine q_is (l' := [(.slice p_xs L_xs.length q_xs), (Fl y_), Ud, Ud, (u4 4), (Iv (k : Int)), (.slice p_xs L_xs.length q_xs), (Iv (L_xs.length : Int)), (Iv (k : Int)), (Bo (icmp .lss (k : Int) (L_xs.length : Int))), (Iv (k : Int)), (.slice p_xs L_xs.length q_xs), (Iv (k : Int)), (Pt b15 o16), (Fl r19), (u4 15), (u4 16), (u4 17), (u4 18)]) rfl rfl (does_load (u := (Fl r19)) (ev rfl) Try.isAgg59 (Cells.at hc18 0 rfl)) rfl ?_
      refine q_is (l' := [(.slice p_xs L_xs.length q_xs), (Fl y_), Ud, Ud, (u4 4), (Iv (k : Int)), (.slice p_xs L_xs.length q_xs), (Iv (L_xs.length : Int)), (Iv (k : Int)), (Bo (icmp .lss (k : Int) (L_xs.length : Int))), (Iv (k : Int)), (.slice p_xs L_xs.length q_xs), (Iv (k : Int)), (Pt b15 o16), (Fl r19), (Fl y_), (u4 16), (u4 17), (u4 18)]) rfl rfl (does_move (u := (Fl y_)) (ev rfl)) rfl ?_
      refine seqd rfl rfl (does_call (args := #[(Fl r19), (Fl y_)]) cal29 (evs rfl) (c_spec_l01Same r19 y_ _)) ?_; rintro _ w22 ⟨E21, rfl⟩
      have X23 := Ext.gr X8 E21
      show wpList _ _ _ _ (fr [(.slice p_xs L_xs.length q_xs), (Fl y_), Ud, Ud, (u4 4), (Iv (k : Int)), (.slice p_xs L_xs.length q_xs), (Iv (L_xs.length : Int)), (Iv (k : Int)), (Bo (icmp .lss (k : Int) (L_xs.length : Int))), (Iv (k : Int)), (.slice p_xs L_xs.length q_xs), (Iv (k : Int)), (Pt b15 o16), (Fl r19), (Fl y_), (Bo (sBits (cf .f32 r19) (cf .f32 y_))), (u4 17), (u4 18)]) _
      refine q_is (l' := [(.slice p_xs L_xs.length q_xs), (Fl y_), Ud, Ud, (u4 4), (Iv (k : Int)), (.slice p_xs L_xs.length q_xs), (Iv (L_xs.length : Int)), (Iv (k : Int)), (Bo (icmp .lss (k : Int) (L_xs.length : Int))), (Iv (k : Int)), (.slice p_xs L_xs.length q_xs), (Iv (k : Int)), (Pt b15 o16), (Fl r19), (Fl y_), (Bo (sBits (cf .f32 r19) (cf .f32 y_))), (Bo (!(sBits (cf .f32 r19) (cf .f32 y_)))), (u4 18)]) rfl rfl (does_not (ev rfl)) rfl ?_
      refine wpList_nil (hK14 _ _ ?_)
      refine wp_cond_split (t := !(sBits (cf .f32 r19) (cf .f32 y_))) (ev rfl) (fun c24 => ?_) (fun c24 => ?_)
      · rw [Bool.not_eq_true'] at c24
        have c24' := c24
        refine wp_seq_k fun K25 hK25 => ?_
        refine wp_region_lit ?_
        refine q_is (l' := [(.slice p_xs L_xs.length q_xs), (Fl y_), Ud, Ud, (Bo false), (Iv (k : Int)), (.slice p_xs L_xs.length q_xs), (Iv (L_xs.length : Int)), (Iv (k : Int)), (Bo (icmp .lss (k : Int) (L_xs.length : Int))), (Iv (k : Int)), (.slice p_xs L_xs.length q_xs), (Iv (k : Int)), (Pt b15 o16), (Fl r19), (Fl y_), (Bo (sBits (cf .f32 r19) (cf .f32 y_))), (Bo (!(sBits (cf .f32 r19) (cf .f32 y_)))), (u4 18)]) rfl rfl (does_assign (u := (Bo false)) (ev rfl)) rfl ?_
        refine wpList_nil (hK25 _ _ ?_)
        refine wp_ret ?_
        dsimp only [Exit.then, Exit.inBlock]
        refine ret_val (v := (Bo false)) (res_T rfl (slot rfl)) X23 ?_
        try simp only [hel1, h20] at c11 c24
        have x26 : (alS L_xs (cf .f32 y_)) = false := by first | exact alS_bad (by assumption) (by simp_all) | exact alS_ok hal (by omega)
        exact (by first | rfl | rw [x26])
      rw [Bool.not_eq_false'] at c24
      have c24' := c24
      refine wp_skip (hK12 _ _ ?_)
      refine wp_region_lit ?_
      refine q_is (l' := [(.slice p_xs L_xs.length q_xs), (Fl y_), Ud, Ud, (u4 4), (Iv (k : Int)), (.slice p_xs L_xs.length q_xs), (Iv (L_xs.length : Int)), (Iv (k : Int)), (Bo (icmp .lss (k : Int) (L_xs.length : Int))), (Iv (k : Int)), (.slice p_xs L_xs.length q_xs), (Iv (k : Int)), (Pt b15 o16), (Fl r19), (Fl y_), (Bo (sBits (cf .f32 r19) (cf .f32 y_))), (Bo (!(sBits (cf .f32 r19) (cf .f32 y_)))), (Iv ((k : Int) + 1))]) rfl rfl (does_iarith (p := (k : Int)) (q := 1) (r := (k : Int) + 1) (ev rfl) (ev rfl) (.inl ⟨rfl, (in_i64 (by omega) (by omega)).symm⟩)) rfl ?_
      refine q_is (l' := [(.slice p_xs L_xs.length q_xs), (Fl y_), Ud, Ud, (u4 4), (Iv (k : Int)), (.slice p_xs L_xs.length q_xs), (Iv (L_xs.length : Int)), (Iv ((k : Int) + 1)), (Bo (icmp .lss (k : Int) (L_xs.length : Int))), (Iv (k : Int)), (.slice p_xs L_xs.length q_xs), (Iv (k : Int)), (Pt b15 o16), (Fl r19), (Fl y_), (Bo (sBits (cf .f32 r19) (cf .f32 y_))), (Bo (!(sBits (cf .f32 r19) (cf .f32 y_)))), (Iv ((k : Int) + 1))]) rfl rfl (does_move (u := (Iv ((k : Int) + 1))) (ev rfl)) rfl ?_
      refine wpList_nil ?_
      refine ⟨k + 1, ⟨fun t => (([(.slice p_xs L_xs.length q_xs), (Fl y_), Ud, Ud, (u4 4), (Iv (k : Int)), (.slice p_xs L_xs.length q_xs), (Iv (L_xs.length : Int)), (Iv ((k : Int) + 1)), (Bo (icmp .lss (k : Int) (L_xs.length : Int))), (Iv (k : Int)), (.slice p_xs L_xs.length q_xs), (Iv (k : Int)), (Pt b15 o16), (Fl r19), (Fl y_), (Bo (sBits (cf .f32 r19) (cf .f32 y_))), (Bo (!(sBits (cf .f32 r19) (cf .f32 y_)))), (Iv ((k : Int) + 1))] : List Value)[t]?).getD undef, ?_, (Ext.gr E6 E21), ?_⟩, ?_⟩
      · first | rfl | (simp only [Nat.cast_add, Nat.cast_one, Int.natCast_add, Int.natCast_one]; rfl)
      · exact ⟨by omega, AllTo.step hal (by assumption) (by simp_all)⟩
      · omega
    have c11' := c11
    (try simp only [icmp, Bool.and_eq_true, Bool.or_eq_true, Bool.and_eq_false_iff, Bool.or_eq_false_iff, Bool.not_eq_true', Bool.not_eq_false', decide_eq_true_eq, decide_eq_false_iff_not, beq_iff_eq, bne_iff_ne, beq_eq_false_iff_ne, bne_eq_false_iff_eq] at c11')
    refine wp_exit ?_
    refine hK2 _ _ ?_
    refine wp_seq_k fun K27 hK27 => ?_
    refine wp_region_lit ?_
    refine q_is (l' := [(.slice p_xs L_xs.length q_xs), (Fl y_), Ud, Ud, (Bo true), (u4 5), (.slice p_xs L_xs.length q_xs), (Iv (L_xs.length : Int)), (Iv (k : Int)), (Bo (icmp .lss (k : Int) (L_xs.length : Int))), (u4 10), (u4 11), (u4 12), (u4 13), (u4 14), (u4 15), (u4 16), (u4 17), (u4 18)]) rfl rfl (does_assign (u := (Bo true)) (ev rfl)) rfl ?_
    refine wpList_nil (hK27 _ _ ?_)
    refine wp_ret ?_
    refine ret_val (v := (Bo true)) (res_T rfl (slot rfl)) X8 ?_
    have x28 : (alS L_xs (cf .f32 y_)) = true := by first | exact alS_bad (by assumption) (by simp_all) | exact alS_ok hal (by omega)
    exact (by first | rfl | rw [x28])

/- spec.l05Empty -/
theorem c_spec_l05Empty (n__b : Nat) (n__o : Nat) (n_ : List Value) (A_n_ : NodeT) (w : World) (hc_n_ : Cells w n__b n__o n_) (hv_n_ : RNodeT w A_n_ n_) : Gives Try.prog 23 #[(Pt n__b n__o)] w (fun v w' => v = (Bo (empS A_n_))) := by
  obtain ⟨y1, rfl, h2⟩ := hv_n_
  have hs5 := h2; have hs5l := Sl.len h2; obtain ⟨p3, q4, rfl⟩ := Sl.shape h2
  refine enter [(Pt n__b n__o), Ud, Ud, Ud, Ud, Ud, Ud, Ud, Ud, Ud, Ud, Ud, Ud, Ud, Ud, Ud, Ud, Ud, Ud, Ud, Ud, Ud, Ud] Try.func23 rfl Try.ntmps23 rfl ?_
  refine wp_seq_k fun K6 hK6 => ?_
  refine wp_region_lit ?_
  refine q_is (l' := [(Pt n__b n__o), Ud, (Bo false), Ud, Ud, Ud, Ud, Ud, Ud, Ud, Ud, Ud, Ud, Ud, Ud, Ud, Ud, Ud, Ud, Ud, Ud, Ud, Ud]) rfl rfl (does_assign (u := (Bo false)) (ev rfl)) rfl ?_
  refine wpList_nil (hK6 _ _ ?_)
  refine wp_seq_k fun K7 hK7 => ?_
  refine wp_seq_k fun K8 hK8 => ?_
  refine wp_region_lit ?_
  refine q_is (l' := [(Pt n__b n__o), Ud, (Bo false), (Pt n__b n__o), Ud, Ud, Ud, Ud, Ud, Ud, Ud, Ud, Ud, Ud, Ud, Ud, Ud, Ud, Ud, Ud, Ud, Ud, Ud]) rfl rfl (does_move (u := (Pt n__b n__o)) (ev rfl)) rfl ?_
  refine q_is (l' := [(Pt n__b n__o), Ud, (Bo false), (Pt n__b n__o), (Pt n__b n__o), Ud, Ud, Ud, Ud, Ud, Ud, Ud, Ud, Ud, Ud, Ud, Ud, Ud, Ud, Ud, Ud, Ud, Ud]) rfl rfl (does_nilCheck (ev rfl)) rfl ?_
  refine q_is (l' := [(Pt n__b n__o), Ud, (Bo false), (Pt n__b n__o), (Pt n__b n__o), (Pt n__b n__o), Ud, Ud, Ud, Ud, Ud, Ud, Ud, Ud, Ud, Ud, Ud, Ud, Ud, Ud, Ud, Ud, Ud]) rfl rfl (does_fieldAddr (ev rfl) fa37_0) rfl ?_
  refine q_is (l' := [(Pt n__b n__o), Ud, (Bo false), (Pt n__b n__o), (Pt n__b n__o), (Pt n__b n__o), (Iv A_n_.kind), Ud, Ud, Ud, Ud, Ud, Ud, Ud, Ud, Ud, Ud, Ud, Ud, Ud, Ud, Ud, Ud]) rfl rfl (does_load (u := (Iv A_n_.kind)) (ev rfl) Try.isAgg2 (Cells.at hc_n_ 0 rfl)) rfl ?_
  refine wpList_nil (hK8 _ _ ?_)
  refine wp_block ?_
  refine wp_seq_k fun K9 hK9 => ?_
  refine wp_seq_k fun K10 hK10 => ?_
  refine wp_region_lit ?_
  refine q_is (l' := [(Pt n__b n__o), Ud, (Bo false), (Pt n__b n__o), (Pt n__b n__o), (Pt n__b n__o), (Iv A_n_.kind), Ud, (Bo (icmp .eql A_n_.kind 9)), Ud, Ud, Ud, Ud, Ud, Ud, Ud, Ud, Ud, Ud, Ud, Ud, Ud, Ud]) rfl rfl (does_icmp (p := A_n_.kind) (q := 9) (.inl rfl) (ev rfl) (ev rfl)) rfl ?_
  refine q_is (l' := [(Pt n__b n__o), Ud, (Bo false), (Pt n__b n__o), (Pt n__b n__o), (Pt n__b n__o), (Iv A_n_.kind), (Bo (icmp .eql A_n_.kind 9)), (Bo (icmp .eql A_n_.kind 9)), Ud, Ud, Ud, Ud, Ud, Ud, Ud, Ud, Ud, Ud, Ud, Ud, Ud, Ud]) rfl rfl (does_assign (u := (Bo (icmp .eql A_n_.kind 9))) (ev rfl)) rfl ?_
  refine wpList_nil (hK10 _ _ ?_)
  refine wp_cond_split (t := icmp .eql A_n_.kind 9) (ev rfl) (fun c11 => ?_) (fun c11 => ?_)
  · have c11' := c11
    (try simp only [icmp, Bool.and_eq_true, Bool.or_eq_true, Bool.and_eq_false_iff, Bool.or_eq_false_iff, Bool.not_eq_true', Bool.not_eq_false', decide_eq_true_eq, decide_eq_false_iff_not, beq_iff_eq, bne_iff_ne, beq_eq_false_iff_ne, bne_eq_false_iff_eq] at c11')
    refine wp_skip (hK9 _ _ ?_)
    refine wp_cond_true ((ev (rfl : evl _ _ = .bool (icmp .eql A_n_.kind 9))).trans (congrArg Value.bool c11)) ?_
    refine wp_seq_k fun K12 hK12 => ?_
    refine wp_region_lit ?_
    refine q_is (l' := [(Pt n__b n__o), Ud, (Bo false), (Pt n__b n__o), (Pt n__b n__o), (Pt n__b n__o), (Iv A_n_.kind), (Bo (icmp .eql A_n_.kind 9)), (Bo (icmp .eql A_n_.kind 9)), Ud, (Pt n__b n__o), Ud, Ud, Ud, Ud, Ud, Ud, Ud, Ud, Ud, Ud, Ud, Ud]) rfl rfl (does_move (u := (Pt n__b n__o)) (ev rfl)) rfl ?_
    refine q_is (l' := [(Pt n__b n__o), Ud, (Bo false), (Pt n__b n__o), (Pt n__b n__o), (Pt n__b n__o), (Iv A_n_.kind), (Bo (icmp .eql A_n_.kind 9)), (Bo (icmp .eql A_n_.kind 9)), Ud, (Pt n__b n__o), (Pt n__b n__o), Ud, Ud, Ud, Ud, Ud, Ud, Ud, Ud, Ud, Ud, Ud]) rfl rfl (does_nilCheck (ev rfl)) rfl ?_
    refine q_is (l' := [(Pt n__b n__o), Ud, (Bo false), (Pt n__b n__o), (Pt n__b n__o), (Pt n__b n__o), (Iv A_n_.kind), (Bo (icmp .eql A_n_.kind 9)), (Bo (icmp .eql A_n_.kind 9)), Ud, (Pt n__b n__o), (Pt n__b n__o), (Pt n__b (n__o + 3)), Ud, Ud, Ud, Ud, Ud, Ud, Ud, Ud, Ud, Ud]) rfl rfl (does_fieldAddr (ev rfl) fa37_3) rfl ?_
    refine q_is (l' := [(Pt n__b n__o), Ud, (Bo false), (Pt n__b n__o), (Pt n__b n__o), (Pt n__b n__o), (Iv A_n_.kind), (Bo (icmp .eql A_n_.kind 9)), (Bo (icmp .eql A_n_.kind 9)), Ud, (Pt n__b n__o), (Pt n__b n__o), (Pt n__b (n__o + 3)), (.slice p3 A_n_.nums.length q4), Ud, Ud, Ud, Ud, Ud, Ud, Ud, Ud, Ud]) rfl rfl (does_load (u := (.slice p3 A_n_.nums.length q4)) (ev rfl) Try.isAgg32 (Cells.at hc_n_ 3 rfl)) rfl ?_
    refine seqd rfl rfl (does_call (args := #[(.slice p3 A_n_.nums.length q4), (Fl 0)]) cal35 (evs rfl) (c_spec_l05All (.slice p3 A_n_.nums.length q4) A_n_.nums 0 _ hs5)) ?_; rintro _ w14 ⟨E13, rfl⟩
    have X15 := Ext.gr (Ext.refl w) E13
    show wpList _ _ _ _ (fr [(Pt n__b n__o), Ud, (Bo false), (Pt n__b n__o), (Pt n__b n__o), (Pt n__b n__o), (Iv A_n_.kind), (Bo (icmp .eql A_n_.kind 9)), (Bo (icmp .eql A_n_.kind 9)), Ud, (Pt n__b n__o), (Pt n__b n__o), (Pt n__b (n__o + 3)), (.slice p3 A_n_.nums.length q4), (Bo (alS A_n_.nums (cf .f32 0))), Ud, Ud, Ud, Ud, Ud, Ud, Ud, Ud]) _
    refine q_is (l' := [(Pt n__b n__o), Ud, (Bo (alS A_n_.nums (cf .f32 0))), (Pt n__b n__o), (Pt n__b n__o), (Pt n__b n__o), (Iv A_n_.kind), (Bo (icmp .eql A_n_.kind 9)), (Bo (icmp .eql A_n_.kind 9)), Ud, (Pt n__b n__o), (Pt n__b n__o), (Pt n__b (n__o + 3)), (.slice p3 A_n_.nums.length q4), (Bo (alS A_n_.nums (cf .f32 0))), Ud, Ud, Ud, Ud, Ud, Ud, Ud, Ud]) rfl rfl (does_assign (u := (Bo (alS A_n_.nums (cf .f32 0)))) (ev rfl)) rfl ?_
    refine wpList_nil (hK12 _ _ ?_)
    refine wp_ret ?_
    dsimp only [Exit.then, Exit.inBlock]
    refine ret_val (v := (Bo (alS A_n_.nums (cf .f32 0)))) (res_T rfl (slot rfl)) X15 ?_
    have x16 : (empS A_n_) = (alS A_n_.nums (cf .f32 0)) := by first | exact empS_0 (.inl (by omega)) | exact empS_0 (.inr (by omega)) | exact empS_1 (by omega) (.inl (by omega)) | exact empS_1 (by omega) (.inr (by omega)) | exact empS_2 (by omega) (by omega)
    exact (by first | rfl | rw [x16])
  have c11' := c11
  (try simp only [icmp, Bool.and_eq_true, Bool.or_eq_true, Bool.and_eq_false_iff, Bool.or_eq_false_iff, Bool.not_eq_true', Bool.not_eq_false', decide_eq_true_eq, decide_eq_false_iff_not, beq_iff_eq, bne_iff_ne, beq_eq_false_iff_ne, bne_eq_false_iff_eq] at c11')
  refine wp_region_lit ?_
  refine q_is (l' := [(Pt n__b n__o), Ud, (Bo false), (Pt n__b n__o), (Pt n__b n__o), (Pt n__b n__o), (Iv A_n_.kind), (Bo (icmp .eql A_n_.kind 9)), (Bo (icmp .eql A_n_.kind 9)), (Bo (icmp .eql A_n_.kind 15)), Ud, Ud, Ud, Ud, Ud, Ud, Ud, Ud, Ud, Ud, Ud, Ud, Ud]) rfl rfl (does_icmp (p := A_n_.kind) (q := 15) (.inl rfl) (ev rfl) (ev rfl)) rfl ?_
  refine q_is (l' := [(Pt n__b n__o), Ud, (Bo false), (Pt n__b n__o), (Pt n__b n__o), (Pt n__b n__o), (Iv A_n_.kind), (Bo (icmp .eql A_n_.kind 15)), (Bo (icmp .eql A_n_.kind 9)), (Bo (icmp .eql A_n_.kind 15)), Ud, Ud, Ud, Ud, Ud, Ud, Ud, Ud, Ud, Ud, Ud, Ud, Ud]) rfl rfl (does_assign (u := (Bo (icmp .eql A_n_.kind 15))) (ev rfl)) rfl ?_
  refine wpList_nil (hK9 _ _ ?_)
  refine wp_cond_split (t := icmp .eql A_n_.kind 15) (ev rfl) (fun c17 => ?_) (fun c17 => ?_)
  · have c17' := c17
    (try simp only [icmp, Bool.and_eq_true, Bool.or_eq_true, Bool.and_eq_false_iff, Bool.or_eq_false_iff, Bool.not_eq_true', Bool.not_eq_false', decide_eq_true_eq, decide_eq_false_iff_not, beq_iff_eq, bne_iff_ne, beq_eq_false_iff_ne, bne_eq_false_iff_eq] at c17')
    refine wp_seq_k fun K18 hK18 => ?_
    refine wp_region_lit ?_
    refine q_is (l' := [(Pt n__b n__o), Ud, (Bo false), (Pt n__b n__o), (Pt n__b n__o), (Pt n__b n__o), (Iv A_n_.kind), (Bo (icmp .eql A_n_.kind 15)), (Bo (icmp .eql A_n_.kind 9)), (Bo (icmp .eql A_n_.kind 15)), (Pt n__b n__o), Ud, Ud, Ud, Ud, Ud, Ud, Ud, Ud, Ud, Ud, Ud, Ud]) rfl rfl (does_move (u := (Pt n__b n__o)) (ev rfl)) rfl ?_
    refine q_is (l' := [(Pt n__b n__o), Ud, (Bo false), (Pt n__b n__o), (Pt n__b n__o), (Pt n__b n__o), (Iv A_n_.kind), (Bo (icmp .eql A_n_.kind 15)), (Bo (icmp .eql A_n_.kind 9)), (Bo (icmp .eql A_n_.kind 15)), (Pt n__b n__o), (Pt n__b n__o), Ud, Ud, Ud, Ud, Ud, Ud, Ud, Ud, Ud, Ud, Ud]) rfl rfl (does_nilCheck (ev rfl)) rfl ?_
    refine q_is (l' := [(Pt n__b n__o), Ud, (Bo false), (Pt n__b n__o), (Pt n__b n__o), (Pt n__b n__o), (Iv A_n_.kind), (Bo (icmp .eql A_n_.kind 15)), (Bo (icmp .eql A_n_.kind 9)), (Bo (icmp .eql A_n_.kind 15)), (Pt n__b n__o), (Pt n__b n__o), (Pt n__b (n__o + 3)), Ud, Ud, Ud, Ud, Ud, Ud, Ud, Ud, Ud, Ud]) rfl rfl (does_fieldAddr (ev rfl) fa37_3) rfl ?_
    refine q_is (l' := [(Pt n__b n__o), Ud, (Bo false), (Pt n__b n__o), (Pt n__b n__o), (Pt n__b n__o), (Iv A_n_.kind), (Bo (icmp .eql A_n_.kind 15)), (Bo (icmp .eql A_n_.kind 9)), (Bo (icmp .eql A_n_.kind 15)), (Pt n__b n__o), (Pt n__b n__o), (Pt n__b (n__o + 3)), (.slice p3 A_n_.nums.length q4), Ud, Ud, Ud, Ud, Ud, Ud, Ud, Ud, Ud]) rfl rfl (does_load (u := (.slice p3 A_n_.nums.length q4)) (ev rfl) Try.isAgg32 (Cells.at hc_n_ 3 rfl)) rfl ?_
    refine seqd rfl rfl (does_call (args := #[(.slice p3 A_n_.nums.length q4), (Fl 0)]) cal35 (evs rfl) (c_spec_l05All (.slice p3 A_n_.nums.length q4) A_n_.nums 0 _ hs5)) ?_; rintro _ w20 ⟨E19, rfl⟩
    have X21 := Ext.gr (Ext.refl w) E19
    show wpList _ _ _ _ (fr [(Pt n__b n__o), Ud, (Bo false), (Pt n__b n__o), (Pt n__b n__o), (Pt n__b n__o), (Iv A_n_.kind), (Bo (icmp .eql A_n_.kind 15)), (Bo (icmp .eql A_n_.kind 9)), (Bo (icmp .eql A_n_.kind 15)), (Pt n__b n__o), (Pt n__b n__o), (Pt n__b (n__o + 3)), (.slice p3 A_n_.nums.length q4), (Bo (alS A_n_.nums (cf .f32 0))), Ud, Ud, Ud, Ud, Ud, Ud, Ud, Ud]) _
    refine q_is (l' := [(Pt n__b n__o), Ud, (Bo (alS A_n_.nums (cf .f32 0))), (Pt n__b n__o), (Pt n__b n__o), (Pt n__b n__o), (Iv A_n_.kind), (Bo (icmp .eql A_n_.kind 15)), (Bo (icmp .eql A_n_.kind 9)), (Bo (icmp .eql A_n_.kind 15)), (Pt n__b n__o), (Pt n__b n__o), (Pt n__b (n__o + 3)), (.slice p3 A_n_.nums.length q4), (Bo (alS A_n_.nums (cf .f32 0))), Ud, Ud, Ud, Ud, Ud, Ud, Ud, Ud]) rfl rfl (does_assign (u := (Bo (alS A_n_.nums (cf .f32 0)))) (ev rfl)) rfl ?_
    refine wpList_nil (hK18 _ _ ?_)
    refine wp_ret ?_
    dsimp only [Exit.then, Exit.inBlock]
    refine ret_val (v := (Bo (alS A_n_.nums (cf .f32 0)))) (res_T rfl (slot rfl)) X21 ?_
    have x22 : (empS A_n_) = (alS A_n_.nums (cf .f32 0)) := by first | exact empS_0 (.inl (by omega)) | exact empS_0 (.inr (by omega)) | exact empS_1 (by omega) (.inl (by omega)) | exact empS_1 (by omega) (.inr (by omega)) | exact empS_2 (by omega) (by omega)
    exact (by first | rfl | rw [x22])
  have c17' := c17
  (try simp only [icmp, Bool.and_eq_true, Bool.or_eq_true, Bool.and_eq_false_iff, Bool.or_eq_false_iff, Bool.not_eq_true', Bool.not_eq_false', decide_eq_true_eq, decide_eq_false_iff_not, beq_iff_eq, bne_iff_ne, beq_eq_false_iff_ne, bne_eq_false_iff_eq] at c17')
  refine wp_seq_k fun K23 hK23 => ?_
  refine wp_seq_k fun K24 hK24 => ?_
  refine wp_region_lit ?_
  refine q_is (l' := [(Pt n__b n__o), Ud, (Bo false), (Pt n__b n__o), (Pt n__b n__o), (Pt n__b n__o), (Iv A_n_.kind), (Bo (icmp .eql A_n_.kind 15)), (Bo (icmp .eql A_n_.kind 9)), (Bo (icmp .eql A_n_.kind 15)), Ud, Ud, Ud, Ud, Ud, Ud, (Bo (icmp .eql A_n_.kind 10)), Ud, Ud, Ud, Ud, Ud, Ud]) rfl rfl (does_icmp (p := A_n_.kind) (q := 10) (.inl rfl) (ev rfl) (ev rfl)) rfl ?_
  refine q_is (l' := [(Pt n__b n__o), Ud, (Bo false), (Pt n__b n__o), (Pt n__b n__o), (Pt n__b n__o), (Iv A_n_.kind), (Bo (icmp .eql A_n_.kind 15)), (Bo (icmp .eql A_n_.kind 9)), (Bo (icmp .eql A_n_.kind 15)), Ud, Ud, Ud, Ud, Ud, (Bo (icmp .eql A_n_.kind 10)), (Bo (icmp .eql A_n_.kind 10)), Ud, Ud, Ud, Ud, Ud, Ud]) rfl rfl (does_assign (u := (Bo (icmp .eql A_n_.kind 10))) (ev rfl)) rfl ?_
  refine wpList_nil (hK24 _ _ ?_)
  refine wp_cond_split (t := icmp .eql A_n_.kind 10) (ev rfl) (fun c25 => ?_) (fun c25 => ?_)
  · have c25' := c25
    (try simp only [icmp, Bool.and_eq_true, Bool.or_eq_true, Bool.and_eq_false_iff, Bool.or_eq_false_iff, Bool.not_eq_true', Bool.not_eq_false', decide_eq_true_eq, decide_eq_false_iff_not, beq_iff_eq, bne_iff_ne, beq_eq_false_iff_ne, bne_eq_false_iff_eq] at c25')
    refine wp_skip (hK23 _ _ ?_)
    refine wp_cond_true ((ev (rfl : evl _ _ = .bool (icmp .eql A_n_.kind 10))).trans (congrArg Value.bool c25)) ?_
    refine wp_seq_k fun K26 hK26 => ?_
    refine wp_region_lit ?_
    refine q_is (l' := [(Pt n__b n__o), Ud, (Bo false), (Pt n__b n__o), (Pt n__b n__o), (Pt n__b n__o), (Iv A_n_.kind), (Bo (icmp .eql A_n_.kind 15)), (Bo (icmp .eql A_n_.kind 9)), (Bo (icmp .eql A_n_.kind 15)), Ud, Ud, Ud, Ud, Ud, (Bo (icmp .eql A_n_.kind 10)), (Bo (icmp .eql A_n_.kind 10)), Ud, (Pt n__b n__o), Ud, Ud, Ud, Ud]) rfl rfl (does_move (u := (Pt n__b n__o)) (ev rfl)) rfl ?_
    refine q_is (l' := [(Pt n__b n__o), Ud, (Bo false), (Pt n__b n__o), (Pt n__b n__o), (Pt n__b n__o), (Iv A_n_.kind), (Bo (icmp .eql A_n_.kind 15)), (Bo (icmp .eql A_n_.kind 9)), (Bo (icmp .eql A_n_.kind 15)), Ud, Ud, Ud, Ud, Ud, (Bo (icmp .eql A_n_.kind 10)), (Bo (icmp .eql A_n_.kind 10)), Ud, (Pt n__b n__o), (Pt n__b n__o), Ud, Ud, Ud]) rfl rfl (does_nilCheck (ev rfl)) rfl ?_
    refine q_is (l' := [(Pt n__b n__o), Ud, (Bo false), (Pt n__b n__o), (Pt n__b n__o), (Pt n__b n__o), (Iv A_n_.kind), (Bo (icmp .eql A_n_.kind 15)), (Bo (icmp .eql A_n_.kind 9)), (Bo (icmp .eql A_n_.kind 15)), Ud, Ud, Ud, Ud, Ud, (Bo (icmp .eql A_n_.kind 10)), (Bo (icmp .eql A_n_.kind 10)), Ud, (Pt n__b n__o), (Pt n__b n__o), (Pt n__b (n__o + 3)), Ud, Ud]) rfl rfl (does_fieldAddr (ev rfl) fa37_3) rfl ?_
    refine q_is (l' := [(Pt n__b n__o), Ud, (Bo false), (Pt n__b n__o), (Pt n__b n__o), (Pt n__b n__o), (Iv A_n_.kind), (Bo (icmp .eql A_n_.kind 15)), (Bo (icmp .eql A_n_.kind 9)), (Bo (icmp .eql A_n_.kind 15)), Ud, Ud, Ud, Ud, Ud, (Bo (icmp .eql A_n_.kind 10)), (Bo (icmp .eql A_n_.kind 10)), Ud, (Pt n__b n__o), (Pt n__b n__o), (Pt n__b (n__o + 3)), (.slice p3 A_n_.nums.length q4), Ud]) rfl rfl (does_load (u := (.slice p3 A_n_.nums.length q4)) (ev rfl) Try.isAgg32 (Cells.at hc_n_ 3 rfl)) rfl ?_
    refine seqd rfl rfl (does_call (args := #[(.slice p3 A_n_.nums.length q4), (Fl 1065353216)]) cal35 (evs rfl) (c_spec_l05All (.slice p3 A_n_.nums.length q4) A_n_.nums 1065353216 _ hs5)) ?_; rintro _ w28 ⟨E27, rfl⟩
    have X29 := Ext.gr (Ext.refl w) E27
    show wpList _ _ _ _ (fr [(Pt n__b n__o), Ud, (Bo false), (Pt n__b n__o), (Pt n__b n__o), (Pt n__b n__o), (Iv A_n_.kind), (Bo (icmp .eql A_n_.kind 15)), (Bo (icmp .eql A_n_.kind 9)), (Bo (icmp .eql A_n_.kind 15)), Ud, Ud, Ud, Ud, Ud, (Bo (icmp .eql A_n_.kind 10)), (Bo (icmp .eql A_n_.kind 10)), Ud, (Pt n__b n__o), (Pt n__b n__o), (Pt n__b (n__o + 3)), (.slice p3 A_n_.nums.length q4), (Bo (alS A_n_.nums (cf .f32 1065353216)))]) _
    refine q_is (l' := [(Pt n__b n__o), Ud, (Bo (alS A_n_.nums (cf .f32 1065353216))), (Pt n__b n__o), (Pt n__b n__o), (Pt n__b n__o), (Iv A_n_.kind), (Bo (icmp .eql A_n_.kind 15)), (Bo (icmp .eql A_n_.kind 9)), (Bo (icmp .eql A_n_.kind 15)), Ud, Ud, Ud, Ud, Ud, (Bo (icmp .eql A_n_.kind 10)), (Bo (icmp .eql A_n_.kind 10)), Ud, (Pt n__b n__o), (Pt n__b n__o), (Pt n__b (n__o + 3)), (.slice p3 A_n_.nums.length q4), (Bo (alS A_n_.nums (cf .f32 1065353216)))]) rfl rfl (does_assign (u := (Bo (alS A_n_.nums (cf .f32 1065353216)))) (ev rfl)) rfl ?_
    refine wpList_nil (hK26 _ _ ?_)
    refine wp_ret ?_
    dsimp only [Exit.then, Exit.inBlock]
    refine ret_val (v := (Bo (alS A_n_.nums (cf .f32 1065353216)))) (res_T rfl (slot rfl)) X29 ?_
    have x30 : (empS A_n_) = (alS A_n_.nums (cf .f32 1065353216)) := by first | exact empS_0 (.inl (by omega)) | exact empS_0 (.inr (by omega)) | exact empS_1 (by omega) (.inl (by omega)) | exact empS_1 (by omega) (.inr (by omega)) | exact empS_2 (by omega) (by omega)
    exact (by first | rfl | rw [x30])
  have c25' := c25
  (try simp only [icmp, Bool.and_eq_true, Bool.or_eq_true, Bool.and_eq_false_iff, Bool.or_eq_false_iff, Bool.not_eq_true', Bool.not_eq_false', decide_eq_true_eq, decide_eq_false_iff_not, beq_iff_eq, bne_iff_ne, beq_eq_false_iff_ne, bne_eq_false_iff_eq] at c25')
  refine wp_region_lit ?_
  refine q_is (l' := [(Pt n__b n__o), Ud, (Bo false), (Pt n__b n__o), (Pt n__b n__o), (Pt n__b n__o), (Iv A_n_.kind), (Bo (icmp .eql A_n_.kind 15)), (Bo (icmp .eql A_n_.kind 9)), (Bo (icmp .eql A_n_.kind 15)), Ud, Ud, Ud, Ud, Ud, (Bo (icmp .eql A_n_.kind 10)), (Bo (icmp .eql A_n_.kind 10)), (Bo (icmp .eql A_n_.kind 11)), Ud, Ud, Ud, Ud, Ud]) rfl rfl (does_icmp (p := A_n_.kind) (q := 11) (.inl rfl) (ev rfl) (ev rfl)) rfl ?_
  refine q_is (l' := [(Pt n__b n__o), Ud, (Bo false), (Pt n__b n__o), (Pt n__b n__o), (Pt n__b n__o), (Iv A_n_.kind), (Bo (icmp .eql A_n_.kind 15)), (Bo (icmp .eql A_n_.kind 9)), (Bo (icmp .eql A_n_.kind 15)), Ud, Ud, Ud, Ud, Ud, (Bo (icmp .eql A_n_.kind 11)), (Bo (icmp .eql A_n_.kind 10)), (Bo (icmp .eql A_n_.kind 11)), Ud, Ud, Ud, Ud, Ud]) rfl rfl (does_assign (u := (Bo (icmp .eql A_n_.kind 11))) (ev rfl)) rfl ?_
  refine wpList_nil (hK23 _ _ ?_)
  refine wp_cond_split (t := icmp .eql A_n_.kind 11) (ev rfl) (fun c31 => ?_) (fun c31 => ?_)
  · have c31' := c31
    (try simp only [icmp, Bool.and_eq_true, Bool.or_eq_true, Bool.and_eq_false_iff, Bool.or_eq_false_iff, Bool.not_eq_true', Bool.not_eq_false', decide_eq_true_eq, decide_eq_false_iff_not, beq_iff_eq, bne_iff_ne, beq_eq_false_iff_ne, bne_eq_false_iff_eq] at c31')
    refine wp_seq_k fun K32 hK32 => ?_
    refine wp_region_lit ?_
    refine q_is (l' := [(Pt n__b n__o), Ud, (Bo false), (Pt n__b n__o), (Pt n__b n__o), (Pt n__b n__o), (Iv A_n_.kind), (Bo (icmp .eql A_n_.kind 15)), (Bo (icmp .eql A_n_.kind 9)), (Bo (icmp .eql A_n_.kind 15)), Ud, Ud, Ud, Ud, Ud, (Bo (icmp .eql A_n_.kind 11)), (Bo (icmp .eql A_n_.kind 10)), (Bo (icmp .eql A_n_.kind 11)), (Pt n__b n__o), Ud, Ud, Ud, Ud]) rfl rfl (does_move (u := (Pt n__b n__o)) (ev rfl)) rfl ?_
    refine q_is (l' := [(Pt n__b n__o), Ud, (Bo false), (Pt n__b n__o), (Pt n__b n__o), (Pt n__b n__o), (Iv A_n_.kind), (Bo (icmp .eql A_n_.kind 15)), (Bo (icmp .eql A_n_.kind 9)), (Bo (icmp .eql A_n_.kind 15)), Ud, Ud, Ud, Ud, Ud, (Bo (icmp .eql A_n_.kind 11)), (Bo (icmp .eql A_n_.kind 10)), (Bo (icmp .eql A_n_.kind 11)), (Pt n__b n__o), (Pt n__b n__o), Ud, Ud, Ud]) rfl rfl (does_nilCheck (ev rfl)) rfl ?_
    refine q_is (l' := [(Pt n__b n__o), Ud, (Bo false), (Pt n__b n__o), (Pt n__b n__o), (Pt n__b n__o), (Iv A_n_.kind), (Bo (icmp .eql A_n_.kind 15)), (Bo (icmp .eql A_n_.kind 9)), (Bo (icmp .eql A_n_.kind 15)), Ud, Ud, Ud, Ud, Ud, (Bo (icmp .eql A_n_.kind 11)), (Bo (icmp .eql A_n_.kind 10)), (Bo (icmp .eql A_n_.kind 11)), (Pt n__b n__o), (Pt n__b n__o), (Pt n__b (n__o + 3)), Ud, Ud]) rfl rfl (does_fieldAddr (ev rfl) fa37_3) rfl ?_
    refine q_is (l' := [(Pt n__b n__o), Ud, (Bo false), (Pt n__b n__o), (Pt n__b n__o), (Pt n__b n__o), (Iv A_n_.kind), (Bo (icmp .eql A_n_.kind 15)), (Bo (icmp .eql A_n_.kind 9)), (Bo (icmp .eql A_n_.kind 15)), Ud, Ud, Ud, Ud, Ud, (Bo (icmp .eql A_n_.kind 11)), (Bo (icmp .eql A_n_.kind 10)), (Bo (icmp .eql A_n_.kind 11)), (Pt n__b n__o), (Pt n__b n__o), (Pt n__b (n__o + 3)), (.slice p3 A_n_.nums.length q4), Ud]) rfl rfl (does_load (u := (.slice p3 A_n_.nums.length q4)) (ev rfl) Try.isAgg32 (Cells.at hc_n_ 3 rfl)) rfl ?_
    refine seqd rfl rfl (does_call (args := #[(.slice p3 A_n_.nums.length q4), (Fl 1065353216)]) cal35 (evs rfl) (c_spec_l05All (.slice p3 A_n_.nums.length q4) A_n_.nums 1065353216 _ hs5)) ?_; rintro _ w34 ⟨E33, rfl⟩
    have X35 := Ext.gr (Ext.refl w) E33
    show wpList _ _ _ _ (fr [(Pt n__b n__o), Ud, (Bo false), (Pt n__b n__o), (Pt n__b n__o), (Pt n__b n__o), (Iv A_n_.kind), (Bo (icmp .eql A_n_.kind 15)), (Bo (icmp .eql A_n_.kind 9)), (Bo (icmp .eql A_n_.kind 15)), Ud, Ud, Ud, Ud, Ud, (Bo (icmp .eql A_n_.kind 11)), (Bo (icmp .eql A_n_.kind 10)), (Bo (icmp .eql A_n_.kind 11)), (Pt n__b n__o), (Pt n__b n__o), (Pt n__b (n__o + 3)), (.slice p3 A_n_.nums.length q4), (Bo (alS A_n_.nums (cf .f32 1065353216)))]) _
    refine q_is (l' := [(Pt n__b n__o), Ud, (Bo (alS A_n_.nums (cf .f32 1065353216))), (Pt n__b n__o), (Pt n__b n__o), (Pt n__b n__o), (Iv A_n_.kind), (Bo (icmp .eql A_n_.kind 15)), (Bo (icmp .eql A_n_.kind 9)), (Bo (icmp .eql A_n_.kind 15)), Ud, Ud, Ud, Ud, Ud, (Bo (icmp .eql A_n_.kind 11)), (Bo (icmp .eql A_n_.kind 10)), (Bo (icmp .eql A_n_.kind 11)), (Pt n__b n__o), (Pt n__b n__o), (Pt n__b (n__o + 3)), (.slice p3 A_n_.nums.length q4), (Bo (alS A_n_.nums (cf .f32 1065353216)))]) rfl rfl (does_assign (u := (Bo (alS A_n_.nums (cf .f32 1065353216)))) (ev rfl)) rfl ?_
    refine wpList_nil (hK32 _ _ ?_)
    refine wp_ret ?_
    dsimp only [Exit.then, Exit.inBlock]
    refine ret_val (v := (Bo (alS A_n_.nums (cf .f32 1065353216)))) (res_T rfl (slot rfl)) X35 ?_
    have x36 : (empS A_n_) = (alS A_n_.nums (cf .f32 1065353216)) := by first | exact empS_0 (.inl (by omega)) | exact empS_0 (.inr (by omega)) | exact empS_1 (by omega) (.inl (by omega)) | exact empS_1 (by omega) (.inr (by omega)) | exact empS_2 (by omega) (by omega)
    exact (by first | rfl | rw [x36])
  have c31' := c31
  (try simp only [icmp, Bool.and_eq_true, Bool.or_eq_true, Bool.and_eq_false_iff, Bool.or_eq_false_iff, Bool.not_eq_true', Bool.not_eq_false', decide_eq_true_eq, decide_eq_false_iff_not, beq_iff_eq, bne_iff_ne, beq_eq_false_iff_ne, bne_eq_false_iff_eq] at c31')
  refine wp_skip (hK7 _ _ ?_)
  refine wp_seq_k fun K37 hK37 => ?_
  refine wp_region_lit ?_
  refine q_is (l' := [(Pt n__b n__o), Ud, (Bo false), (Pt n__b n__o), (Pt n__b n__o), (Pt n__b n__o), (Iv A_n_.kind), (Bo (icmp .eql A_n_.kind 15)), (Bo (icmp .eql A_n_.kind 9)), (Bo (icmp .eql A_n_.kind 15)), Ud, Ud, Ud, Ud, Ud, (Bo (icmp .eql A_n_.kind 11)), (Bo (icmp .eql A_n_.kind 10)), (Bo (icmp .eql A_n_.kind 11)), Ud, Ud, Ud, Ud, Ud]) rfl rfl (does_assign (u := (Bo false)) (ev rfl)) rfl ?_
  refine wpList_nil (hK37 _ _ ?_)
  refine wp_ret ?_
  refine ret_val (v := (Bo false)) (res_T rfl (slot rfl)) (Ext.refl w) ?_
  have x38 : (empS A_n_) = false := by first | exact empS_0 (.inl (by omega)) | exact empS_0 (.inr (by omega)) | exact empS_1 (by omega) (.inl (by omega)) | exact empS_1 (by omega) (.inr (by omega)) | exact empS_2 (by omega) (by omega)
  exact (by first | rfl | rw [x38])

/- spec.IsEmptyNode -/
theorem c_spec_IsEmptyNode (n_ : List Value) (A_n_ : NodeT) (w : World) (hv_n_ : RNodeT w A_n_ n_) : Gives Try.prog 11 #[(.agg n_.toArray)] w (fun v w' => v = (Bo (isEmS A_n_))) := by
  obtain ⟨y1, rfl, h2⟩ := hv_n_
  have hs5 := h2; have hs5l := Sl.len h2; obtain ⟨p3, q4, rfl⟩ := Sl.shape h2
  refine enter [(.agg #[(Iv A_n_.kind), (Iv A_n_.a), (Iv A_n_.b), (.slice p3 A_n_.nums.length q4)]), Ud, Ud, Ud, Ud, Ud, Ud, Ud, Ud, Ud, Ud] Try.func11 rfl Try.ntmps11 rfl ?_
  refine wp_seq_k fun K6 hK6 => ?_
  refine wp_region_lit ?_
  refine seqd rfl rfl (does_box (u := (.agg #[(Iv A_n_.kind), (Iv A_n_.a), (Iv A_n_.b), (.slice p3 A_n_.nums.length q4)])) (ev rfl)) ?_; rintro _ w11 ⟨b7, rfl, hb8, hB9, E10⟩
  have g12 : w.heap.size ≤ b7 := Nat.le_trans (Below.size (Ext.refl w)) hb8
  change Blk _ _ [(Iv A_n_.kind), (Iv A_n_.a), (Iv A_n_.b), (.slice p3 A_n_.nums.length q4)] at hB9
  have X13 := Ext.gr (Ext.refl w) E10
  show wpList _ _ _ _ (fr [(.agg #[(Iv A_n_.kind), (Iv A_n_.a), (Iv A_n_.b), (.slice p3 A_n_.nums.length q4)]), (Pt b7 0), Ud, Ud, Ud, Ud, Ud, Ud, Ud, Ud, Ud]) _
  refine q_is (l' := [(.agg #[(Iv A_n_.kind), (Iv A_n_.a), (Iv A_n_.b), (.slice p3 A_n_.nums.length q4)]), (Pt b7 0), (Bo false), Ud, Ud, Ud, Ud, Ud, Ud, Ud, Ud]) rfl rfl (does_assign (u := (Bo false)) (ev rfl)) rfl ?_
  refine wpList_nil (hK6 _ _ ?_)
  refine wp_seq_k fun K14 hK14 => ?_
  obtain ⟨β1, hβ1⟩ : ∃ b : Bool, b = (nodeNums A_n_.kind A_n_.nums) := ⟨_, rfl⟩
  refine region_text (
    [Fact.pure [] (fun v => v = (Pt b7 0)),
    Fact.pure [3] (fun v => v = (Iv A_n_.kind)),
    Fact.pure [] (fun v => v = (Pt b7 3)),
    Fact.pure [5] (fun v => v = (.slice p3 A_n_.nums.length q4)),
    Fact.pure [4, 6] (fun v => v = (Bo β1)),
    Fact.pure [7] (fun v => v = (Bo β1)),
    Fact.pure [8] (fun v => β1 = true → v = (Bo (empS A_n_))),
    Fact.pure [8, 9] (fun v => v = (Bo (β1 && (empS A_n_))))]) (by simp [Fact.pure, Fact.mem]) ?_
  refine RW_d (fun v15 => [(.agg #[(Iv A_n_.kind), (Iv A_n_.a), (Iv A_n_.b), (.slice p3 A_n_.nums.length q4)]), (Pt b7 0), (Bo false), v15, Ud, Ud, Ud, Ud, Ud, Ud, Ud]) rfl (fun _ => rfl) (fun u hu hF => ?_) (fun v15 => ?_)
  · clear hF
    refine doesG_un rfl ?_
    refine (does_fieldAddr (ev rfl) fa37_0).mono ?_; rintro _ _ ⟨rfl, rfl⟩
    exact ⟨rfl, Ext.refl _⟩
  refine RW_d (fun v16 => [(.agg #[(Iv A_n_.kind), (Iv A_n_.a), (Iv A_n_.b), (.slice p3 A_n_.nums.length q4)]), (Pt b7 0), (Bo false), v15, v16, Ud, Ud, Ud, Ud, Ud, Ud]) rfl (fun _ => rfl) (fun u hu hF => ?_) (fun v16 => ?_)
  · have h3_ : v15 = (Pt b7 0) := hF.1
    clear hF
    refine doesG_un rfl ?_
    obtain rfl := h3_
    refine (does_load (u := (Iv A_n_.kind)) (ev rfl) Try.isAgg2 (Cells.at (Blk.cells (hB9.ext hu)) 0 rfl)).mono ?_; rintro _ _ ⟨rfl, rfl⟩
    exact ⟨rfl, Ext.refl _⟩
  refine RW_d (fun v17 => [(.agg #[(Iv A_n_.kind), (Iv A_n_.a), (Iv A_n_.b), (.slice p3 A_n_.nums.length q4)]), (Pt b7 0), (Bo false), v15, v16, v17, Ud, Ud, Ud, Ud, Ud]) rfl (fun _ => rfl) (fun u hu hF => ?_) (fun v17 => ?_)
  · clear hF
    refine doesG_un rfl ?_
    refine (does_fieldAddr (ev rfl) fa37_3).mono ?_; rintro _ _ ⟨rfl, rfl⟩
    exact ⟨rfl, Ext.refl _⟩
  refine RW_d (fun v18 => [(.agg #[(Iv A_n_.kind), (Iv A_n_.a), (Iv A_n_.b), (.slice p3 A_n_.nums.length q4)]), (Pt b7 0), (Bo false), v15, v16, v17, v18, Ud, Ud, Ud, Ud]) rfl (fun _ => rfl) (fun u hu hF => ?_) (fun v18 => ?_)
  · have h5_ : v17 = (Pt b7 3) := hF.1
    clear hF
    refine doesG_un rfl ?_
    obtain rfl := h5_
    refine (does_load (u := (.slice p3 A_n_.nums.length q4)) (ev rfl) Try.isAgg32 (Cells.at (Blk.cells (hB9.ext hu)) 3 rfl)).mono ?_; rintro _ _ ⟨rfl, rfl⟩
    exact ⟨rfl, Ext.refl _⟩
  refine RW_d (fun v19 => [(.agg #[(Iv A_n_.kind), (Iv A_n_.a), (Iv A_n_.b), (.slice p3 A_n_.nums.length q4)]), (Pt b7 0), (Bo false), v15, v16, v17, v18, v19, Ud, Ud, Ud]) rfl (fun _ => rfl) (fun u hu hF => ?_) (fun v19 => ?_)
  · have h4_ : v16 = (Iv A_n_.kind) := hF.1
    have h6_ : v18 = (.slice p3 A_n_.nums.length q4) := hF.2.1
    clear hF
    refine doesG_un rfl ?_
    obtain rfl := h4_
    obtain rfl := h6_
    refine (does_call (args := #[(Iv A_n_.kind), (.slice p3 A_n_.nums.length q4)]) cal22 (evs rfl) (c_spec_l02Numbers A_n_.kind (.slice p3 A_n_.nums.length q4) A_n_.nums _ (Sl.ext (Sl.ext hs5 RF.mono X13) RF.mono hu))).mono ?_; rintro v u' ⟨hx, hv⟩
    exact ⟨hv.trans (by simp only [hβ1]), hx⟩
  refine RW_d (fun v20 => [(.agg #[(Iv A_n_.kind), (Iv A_n_.a), (Iv A_n_.b), (.slice p3 A_n_.nums.length q4)]), (Pt b7 0), (Bo false), v15, v16, v17, v18, v19, v20, Ud, Ud]) rfl (fun _ => rfl) (fun u hu hF => ?_) (fun v20 => ?_)
  · have h7_ : v19 = (Bo β1) := hF.1
    clear hF
    refine doesG_un rfl ?_
    obtain rfl := h7_
    refine (does_move (u := (Bo β1)) (ev rfl)).mono ?_; rintro _ _ ⟨rfl, rfl⟩
    exact ⟨rfl, Ext.refl _⟩
  refine RW_d (fun v21 => [(.agg #[(Iv A_n_.kind), (Iv A_n_.a), (Iv A_n_.b), (.slice p3 A_n_.nums.length q4)]), (Pt b7 0), (Bo false), v15, v16, v17, v18, v19, v20, v21, Ud]) rfl (fun _ => rfl) (fun u hu hF => ?_) (fun v21 => ?_)
  · have h8_ : v20 = (Bo β1) := hF.1
    clear hF
    obtain rfl := h8_
    refine doesG_g (b := β1) rfl (yld rfl rfl) (fun hg1 => ?_) (fun hc => ⟨fun hg1 => absurd hg1 hc, Ext.refl _⟩)
    refine (does_call (args := #[(Pt b7 0)]) cal23 (evs rfl) (c_spec_l05Empty b7 0 [(Iv A_n_.kind), (Iv A_n_.a), (Iv A_n_.b), (.slice p3 A_n_.nums.length q4)] A_n_ _ (Blk.cells (hB9.ext hu)) ⟨(.slice p3 A_n_.nums.length q4), rfl, (Sl.ext (Sl.ext hs5 RF.mono X13) RF.mono hu)⟩)).mono ?_; rintro v u' ⟨hx, hv⟩
    exact ⟨fun _ => hv, hx⟩
  refine RW_d (fun v22 => [(.agg #[(Iv A_n_.kind), (Iv A_n_.a), (Iv A_n_.b), (.slice p3 A_n_.nums.length q4)]), (Pt b7 0), (Bo false), v15, v16, v17, v18, v19, v20, v21, v22]) rfl (fun _ => rfl) (fun u hu hF => ?_) (fun v22 => ?_)
  · have h8_ : v20 = (Bo β1) := hF.1
    have h9_ : β1 = true → v21 = (Bo (empS A_n_)) := hF.2.1
    clear hF
    refine doesG_un rfl ?_
    skip
    obtain rfl := h8_
    refine (does_pick (b := β1) (ev rfl) (ev rfl) (ev rfl)).mono ?_; rintro _ _ ⟨rfl, rfl⟩; refine ⟨?_, Ext.refl _⟩; skip
    cases hbb : β1 <;> simp [hbb] at h9_ ⊢
    all_goals (first | rfl | (subst h9_; rfl) | simp_all)
  refine RW_fin ?_; intro w23 E24 hP25
  obtain ⟨⟨⟨⟨⟨⟨⟨⟨-, -⟩, -⟩, -⟩, -⟩, -⟩, -⟩, -⟩, q26⟩ := hP25
  have X27 := Ext.gr X13 E24
  have q26 : v22 = (Bo (β1 && (empS A_n_))) := q26
  obtain rfl := q26
  show wpList _ _ _ _ (fr [(.agg #[(Iv A_n_.kind), (Iv A_n_.a), (Iv A_n_.b), (.slice p3 A_n_.nums.length q4)]), (Pt b7 0), (Bo false), v15, v16, v17, v18, v19, v20, v21, (Bo (β1 && (empS A_n_)))]) _
  refine q_is (l' := [(.agg #[(Iv A_n_.kind), (Iv A_n_.a), (Iv A_n_.b), (.slice p3 A_n_.nums.length q4)]), (Pt b7 0), (Bo (β1 && (empS A_n_))), v15, v16, v17, v18, v19, v20, v21, (Bo (β1 && (empS A_n_)))]) rfl rfl (does_assign (u := (Bo (β1 && (empS A_n_)))) (ev rfl)) rfl ?_
  refine wpList_nil (hK14 _ _ ?_)
  refine wp_ret ?_
  refine ret_val (v := (Bo (β1 && (empS A_n_)))) (res_T rfl (slot rfl)) X27 ?_
  have x28 : (isEmS A_n_) = (β1 && (empS A_n_)) := by first | with_reducible rfl | (simp only [isEmS, hβ1]; done) | (simp [isEmS, hβ1]; done) | rfl
  exact (by first | rfl | rw [x28])

/- impl.ruleOf -/
theorem c_impl_ruleOf (kind : Int) (w : World) : Gives Try.prog 36 #[(Iv kind)] w (fun v w' => ∃ cs_1 : List Value, v = (.tuple #[(.agg cs_1.toArray), (Bo (rlOk kind))]) ∧ RRuleT w (ruleP kind) cs_1) := by
  refine enter [(Iv kind), Ud, Ud, Ud, Ud, Ud, Ud, Ud, Ud, Ud, Ud, Ud, Ud, Ud, Ud, Ud, Ud, Ud, Ud, Ud, Ud, Ud, Ud, Ud, Ud, Ud, Ud, Ud, Ud, Ud, Ud, Ud, Ud, Ud, Ud, Ud, Ud, Ud, Ud, Ud, Ud, Ud, Ud, Ud, Ud, Ud, Ud, Ud, Ud, Ud, Ud] Try.func36 rfl Try.ntmps36 rfl ?_
  refine wp_seq_k fun K1 hK1 => ?_
  refine wp_region_lit ?_
  refine seqd rfl rfl (does_alloc z65) ?_; rintro _ w6 ⟨b2, rfl, hb3, hB4, E5⟩
  have g7 : w.heap.size ≤ b2 := Nat.le_trans (Below.size (Ext.refl w)) hb3
  change Blk _ _ [(Iv 0), (Iv 0), (Bo false), (Iv 0)] at hB4
  have X8 := Ext.gr (Ext.refl w) E5
  show wpList _ _ _ _ (fr [(Iv kind), Ud, (Pt b2 0), Ud, Ud, Ud, Ud, Ud, Ud, Ud, Ud, Ud, Ud, Ud, Ud, Ud, Ud, Ud, Ud, Ud, Ud, Ud, Ud, Ud, Ud, Ud, Ud, Ud, Ud, Ud, Ud, Ud, Ud, Ud, Ud, Ud, Ud, Ud, Ud, Ud, Ud, Ud, Ud, Ud, Ud, Ud, Ud, Ud, Ud, Ud, Ud]) _
  refine q_is rfl rfl (does_assign (u := (Bo false)) (ev rfl)) (by dsimp only [List.set]; try rfl) ?_
  refine wpList_nil (hK1 _ _ ?_)
  refine wp_seq_k fun K9 hK9 => ?_
  refine wp_seq_k fun K10 hK10 => ?_
  refine wp_region_lit ?_
  refine q_is rfl rfl (does_move (u := (Iv kind)) (ev rfl)) (by dsimp only [List.set]; try rfl) ?_
  refine wpList_nil (hK10 _ _ ?_)
  refine wp_block ?_
  refine wp_seq_k fun K11 hK11 => ?_
  refine wp_region_lit ?_
  refine q_is rfl rfl (does_icmp (p := kind) (q := 0) (.inl rfl) (ev rfl) (ev rfl)) (by dsimp only [List.set]; try rfl) ?_
  refine q_is rfl rfl (does_assign (u := (Bo (icmp .eql kind 0))) (ev rfl)) (by dsimp only [List.set]; try rfl) ?_
  refine wpList_nil (hK11 _ _ ?_)
  refine wp_cond_split (t := icmp .eql kind 0) (ev rfl) (fun c12 => ?_) (fun c12 => ?_)
  · have c12' := c12
    (try simp only [icmp, Bool.and_eq_true, Bool.or_eq_true, Bool.and_eq_false_iff, Bool.or_eq_false_iff, Bool.not_eq_true', Bool.not_eq_false', decide_eq_true_eq, decide_eq_false_iff_not, beq_iff_eq, bne_iff_ne, beq_eq_false_iff_ne, bne_eq_false_iff_eq] at c12')
    refine wp_seq_k fun K13 hK13 => ?_
    refine wp_region_lit ?_
    refine q_is rfl rfl (does_build (parts' := [(0, (Iv 1)), (1, (Iv 0)), (2, (Bo false)), (3, (Iv 1))]) (cells := #[(Iv 1), (Iv 0), (Bo false), (Iv 1)]) (evp rfl) (by kernel_rfl)) (by dsimp only [List.set]; try rfl) ?_
    refine seqn rfl rfl (does_store (n := 4) (cs := [(Iv 0), (Iv 0), (Bo false), (Iv 0)]) (u := (.agg #[(Iv 1), (Iv 0), (Bo false), (Iv 1)])) (ev rfl) (ev rfl) Try.sizeOf65 rfl hB4 (Nat.le_of_ble_eq_true rfl) rfl) ?_; rintro _ w16 ⟨rfl, W14, hB15⟩
    change Blk _ _ [(Iv 1), (Iv 0), (Bo false), (Iv 1)] at hB15
    have X17 := Below.wr X8 W14 g7
    refine q_is rfl rfl (does_assign (u := (Bo true)) (ev rfl)) (by dsimp only [List.set]; try rfl) ?_
    refine wpList_nil (hK13 _ _ ?_)
    refine wp_ret ?_
    dsimp only [Exit.then, Exit.inBlock]
    refine ret_val (v := (.tuple #[(.agg #[(Iv 1), (Iv 0), (Bo false), (Iv 1)]), (Bo true)])) (res_CT rfl (slot rfl) (run_loadAgg (cs := [(Iv 1), (Iv 0), (Bo false), (Iv 1)]) Try.isAgg65 Try.sizeOf65 (Blk.cells hB15) rfl) (slot rfl)) X17 ?_
    have x18 : (rlOk kind) = true := by first | (simp [ruleP, rlNum, rlCh, rlAx, rlSg, rlOk, inI, icmp, *]; done) | (simp_all [ruleP, rlNum, rlCh, rlAx, rlSg, rlOk, inI, icmp]; done) | (simp only [ruleP, rlNum, rlCh, rlAx, rlSg, rlOk, inI, icmp]; simp_all; omega) | (simp only [ruleP, rlNum, rlCh, rlAx, rlSg, rlOk, inI, icmp]; simp; omega)
    have x19 : (ruleP kind).num = 1 := by first | (simp [ruleP, rlNum, rlCh, rlAx, rlSg, rlOk, inI, icmp, *]; done) | (simp_all [ruleP, rlNum, rlCh, rlAx, rlSg, rlOk, inI, icmp]; done) | (simp only [ruleP, rlNum, rlCh, rlAx, rlSg, rlOk, inI, icmp]; simp_all; omega) | (simp only [ruleP, rlNum, rlCh, rlAx, rlSg, rlOk, inI, icmp]; simp; omega)
    have x20 : (ruleP kind).ch = 0 := by first | (simp [ruleP, rlNum, rlCh, rlAx, rlSg, rlOk, inI, icmp, *]; done) | (simp_all [ruleP, rlNum, rlCh, rlAx, rlSg, rlOk, inI, icmp]; done) | (simp only [ruleP, rlNum, rlCh, rlAx, rlSg, rlOk, inI, icmp]; simp_all; omega) | (simp only [ruleP, rlNum, rlCh, rlAx, rlSg, rlOk, inI, icmp]; simp; omega)
    have x21 : (ruleP kind).ax = false := by first | (simp [ruleP, rlNum, rlCh, rlAx, rlSg, rlOk, inI, icmp, *]; done) | (simp_all [ruleP, rlNum, rlCh, rlAx, rlSg, rlOk, inI, icmp]; done) | (simp only [ruleP, rlNum, rlCh, rlAx, rlSg, rlOk, inI, icmp]; simp_all; omega) | (simp only [ruleP, rlNum, rlCh, rlAx, rlSg, rlOk, inI, icmp]; simp; omega)
    have x22 : (ruleP kind).sg = 1 := by first | (simp [ruleP, rlNum, rlCh, rlAx, rlSg, rlOk, inI, icmp, *]; done) | (simp_all [ruleP, rlNum, rlCh, rlAx, rlSg, rlOk, inI, icmp]; done) | (simp only [ruleP, rlNum, rlCh, rlAx, rlSg, rlOk, inI, icmp]; simp_all; omega) | (simp only [ruleP, rlNum, rlCh, rlAx, rlSg, rlOk, inI, icmp]; simp; omega)
    exact ⟨[(Iv 1), (Iv 0), (Bo false), (Iv 1)], (by first | rfl | rw [x18]), (by first | with_reducible rfl | (show _ = _; simp only [x19, x20, x21, x22]) | rfl)⟩
  have c12' := c12
  (try simp only [icmp, Bool.and_eq_true, Bool.or_eq_true, Bool.and_eq_false_iff, Bool.or_eq_false_iff, Bool.not_eq_true', Bool.not_eq_false', decide_eq_true_eq, decide_eq_false_iff_not, beq_iff_eq, bne_iff_ne, beq_eq_false_iff_ne, bne_eq_false_iff_eq] at c12')
  refine wp_seq_k fun K23 hK23 => ?_
  refine wp_region_lit ?_
  refine q_is rfl rfl (does_icmp (p := kind) (q := 1) (.inl rfl) (ev rfl) (ev rfl)) (by dsimp only [List.set]; try rfl) ?_
  refine q_is rfl rfl (does_assign (u := (Bo (icmp .eql kind 1))) (ev rfl)) (by dsimp only [List.set]; try rfl) ?_
  refine wpList_nil (hK23 _ _ ?_)
  refine wp_cond_split (t := icmp .eql kind 1) (ev rfl) (fun c24 => ?_) (fun c24 => ?_)
  · have c24' := c24
    (try simp only [icmp, Bool.and_eq_true, Bool.or_eq_true, Bool.and_eq_false_iff, Bool.or_eq_false_iff, Bool.not_eq_true', Bool.not_eq_false', decide_eq_true_eq, decide_eq_false_iff_not, beq_iff_eq, bne_iff_ne, beq_eq_false_iff_ne, bne_eq_false_iff_eq] at c24')
    refine wp_seq_k fun K25 hK25 => ?_
    refine wp_region_lit ?_
    refine q_is rfl rfl (does_build (parts' := [(0, (Iv 3)), (1, (Iv 0)), (2, (Bo false)), (3, (Iv 1))]) (cells := #[(Iv 3), (Iv 0), (Bo false), (Iv 1)]) (evp rfl) (by kernel_rfl)) (by dsimp only [List.set]; try rfl) ?_
    refine seqn rfl rfl (does_store (n := 4) (cs := [(Iv 0), (Iv 0), (Bo false), (Iv 0)]) (u := (.agg #[(Iv 3), (Iv 0), (Bo false), (Iv 1)])) (ev rfl) (ev rfl) Try.sizeOf65 rfl hB4 (Nat.le_of_ble_eq_true rfl) rfl) ?_; rintro _ w28 ⟨rfl, W26, hB27⟩
    change Blk _ _ [(Iv 3), (Iv 0), (Bo false), (Iv 1)] at hB27
    have X29 := Below.wr X8 W26 g7
    refine q_is rfl rfl (does_assign (u := (Bo true)) (ev rfl)) (by dsimp only [List.set]; try rfl) ?_
    refine wpList_nil (hK25 _ _ ?_)
    refine wp_ret ?_
    dsimp only [Exit.then, Exit.inBlock]
    refine ret_val (v := (.tuple #[(.agg #[(Iv 3), (Iv 0), (Bo false), (Iv 1)]), (Bo true)])) (res_CT rfl (slot rfl) (run_loadAgg (cs := [(Iv 3), (Iv 0), (Bo false), (Iv 1)]) Try.isAgg65 Try.sizeOf65 (Blk.cells hB27) rfl) (slot rfl)) X29 ?_
    have x30 : (rlOk kind) = true := by first | (simp [ruleP, rlNum, rlCh, rlAx, rlSg, rlOk, inI, icmp, *]; done) | (simp_all [ruleP, rlNum, rlCh, rlAx, rlSg, rlOk, inI, icmp]; done) | (simp only [ruleP, rlNum, rlCh, rlAx, rlSg, rlOk, inI, icmp]; simp_all; omega) | (simp only [ruleP, rlNum, rlCh, rlAx, rlSg, rlOk, inI, icmp]; simp; omega)
    have x31 : (ruleP kind).num = 3 := by first | (simp [ruleP, rlNum, rlCh, rlAx, rlSg, rlOk, inI, icmp, *]; done) | (simp_all [ruleP, rlNum, rlCh, rlAx, rlSg, rlOk, inI, icmp]; done) | (simp only [ruleP, rlNum, rlCh, rlAx, rlSg, rlOk, inI, icmp]; simp_all; omega) | (simp only [ruleP, rlNum, rlCh, rlAx, rlSg, rlOk, inI, icmp]; simp; omega)
    have x32 : (ruleP kind).ch = 0 := by first | (simp [ruleP, rlNum, rlCh, rlAx, rlSg, rlOk, inI, icmp, *]; done) | (simp_all [ruleP, rlNum, rlCh, rlAx, rlSg, rlOk, inI, icmp]; done) | (simp only [ruleP, rlNum, rlCh, rlAx, rlSg, rlOk, inI, icmp]; simp_all; omega) | (simp only [ruleP, rlNum, rlCh, rlAx, rlSg, rlOk, inI, icmp]; simp; omega)
    have x33 : (ruleP kind).ax = false := by first | (simp [ruleP, rlNum, rlCh, rlAx, rlSg, rlOk, inI, icmp, *]; done) | (simp_all [ruleP, rlNum, rlCh, rlAx, rlSg, rlOk, inI, icmp]; done) | (simp only [ruleP, rlNum, rlCh, rlAx, rlSg, rlOk, inI, icmp]; simp_all; omega) | (simp only [ruleP, rlNum, rlCh, rlAx, rlSg, rlOk, inI, icmp]; simp; omega)
    have x34 : (ruleP kind).sg = 1 := by first | (simp [ruleP, rlNum, rlCh, rlAx, rlSg, rlOk, inI, icmp, *]; done) | (simp_all [ruleP, rlNum, rlCh, rlAx, rlSg, rlOk, inI, icmp]; done) | (simp only [ruleP, rlNum, rlCh, rlAx, rlSg, rlOk, inI, icmp]; simp_all; omega) | (simp only [ruleP, rlNum, rlCh, rlAx, rlSg, rlOk, inI, icmp]; simp; omega)
    exact ⟨[(Iv 3), (Iv 0), (Bo false), (Iv 1)], (by first | rfl | rw [x30]), (by first | with_reducible rfl | (show _ = _; simp only [x31, x32, x33, x34]) | rfl)⟩
  have c24' := c24
  (try simp only [icmp, Bool.and_eq_true, Bool.or_eq_true, Bool.and_eq_false_iff, Bool.or_eq_false_iff, Bool.not_eq_true', Bool.not_eq_false', decide_eq_true_eq, decide_eq_false_iff_not, beq_iff_eq, bne_iff_ne, beq_eq_false_iff_ne, bne_eq_false_iff_eq] at c24')
  refine wp_seq_k fun K35 hK35 => ?_
  refine wp_seq_k fun K36 hK36 => ?_
  refine wp_region_lit ?_
  refine q_is rfl rfl (does_icmp (p := kind) (q := 2) (.inl rfl) (ev rfl) (ev rfl)) (by dsimp only [List.set]; try rfl) ?_
  refine q_is rfl rfl (does_assign (u := (Bo (icmp .eql kind 2))) (ev rfl)) (by dsimp only [List.set]; try rfl) ?_
  refine wpList_nil (hK36 _ _ ?_)
  refine wp_cond_split (t := icmp .eql kind 2) (ev rfl) (fun c37 => ?_) (fun c37 => ?_)
  · have c37' := c37
    (try simp only [icmp, Bool.and_eq_true, Bool.or_eq_true, Bool.and_eq_false_iff, Bool.or_eq_false_iff, Bool.not_eq_true', Bool.not_eq_false', decide_eq_true_eq, decide_eq_false_iff_not, beq_iff_eq, bne_iff_ne, beq_eq_false_iff_ne, bne_eq_false_iff_eq] at c37')
    refine wp_skip (hK35 _ _ ?_)
    refine wp_cond_true ((ev (rfl : evl _ _ = .bool (icmp .eql kind 2))).trans (congrArg Value.bool c37)) ?_
    refine wp_seq_k fun K38 hK38 => ?_
    refine wp_region_lit ?_
    refine q_is rfl rfl (does_build (parts' := [(0, (Iv 2)), (1, (Iv 0)), (2, (Bo false)), (3, (Iv 1))]) (cells := #[(Iv 2), (Iv 0), (Bo false), (Iv 1)]) (evp rfl) (by kernel_rfl)) (by dsimp only [List.set]; try rfl) ?_
    refine seqn rfl rfl (does_store (n := 4) (cs := [(Iv 0), (Iv 0), (Bo false), (Iv 0)]) (u := (.agg #[(Iv 2), (Iv 0), (Bo false), (Iv 1)])) (ev rfl) (ev rfl) Try.sizeOf65 rfl hB4 (Nat.le_of_ble_eq_true rfl) rfl) ?_; rintro _ w41 ⟨rfl, W39, hB40⟩
    change Blk _ _ [(Iv 2), (Iv 0), (Bo false), (Iv 1)] at hB40
    have X42 := Below.wr X8 W39 g7
    refine q_is rfl rfl (does_assign (u := (Bo true)) (ev rfl)) (by dsimp only [List.set]; try rfl) ?_
    refine wpList_nil (hK38 _ _ ?_)
    refine wp_ret ?_
    dsimp only [Exit.then, Exit.inBlock]
    refine ret_val (v := (.tuple #[(.agg #[(Iv 2), (Iv 0), (Bo false), (Iv 1)]), (Bo true)])) (res_CT rfl (slot rfl) (run_loadAgg (cs := [(Iv 2), (Iv 0), (Bo false), (Iv 1)]) Try.isAgg65 Try.sizeOf65 (Blk.cells hB40) rfl) (slot rfl)) X42 ?_
    have x43 : (rlOk kind) = true := by first | (simp [ruleP, rlNum, rlCh, rlAx, rlSg, rlOk, inI, icmp, *]; done) | (simp_all [ruleP, rlNum, rlCh, rlAx, rlSg, rlOk, inI, icmp]; done) | (simp only [ruleP, rlNum, rlCh, rlAx, rlSg, rlOk, inI, icmp]; simp_all; omega) | (simp only [ruleP, rlNum, rlCh, rlAx, rlSg, rlOk, inI, icmp]; simp; omega)
    have x44 : (ruleP kind).num = 2 := by first | (simp [ruleP, rlNum, rlCh, rlAx, rlSg, rlOk, inI, icmp, *]; done) | (simp_all [ruleP, rlNum, rlCh, rlAx, rlSg, rlOk, inI, icmp]; done) | (simp only [ruleP, rlNum, rlCh, rlAx, rlSg, rlOk, inI, icmp]; simp_all; omega) | (simp only [ruleP, rlNum, rlCh, rlAx, rlSg, rlOk, inI, icmp]; simp; omega)
    have x45 : (ruleP kind).ch = 0 := by first | (simp [ruleP, rlNum, rlCh, rlAx, rlSg, rlOk, inI, icmp, *]; done) | (simp_all [ruleP, rlNum, rlCh, rlAx, rlSg, rlOk, inI, icmp]; done) | (simp only [ruleP, rlNum, rlCh, rlAx, rlSg, rlOk, inI, icmp]; simp_all; omega) | (simp only [ruleP, rlNum, rlCh, rlAx, rlSg, rlOk, inI, icmp]; simp; omega)
    have x46 : (ruleP kind).ax = false := by first | (simp [ruleP, rlNum, rlCh, rlAx, rlSg, rlOk, inI, icmp, *]; done) | (simp_all [ruleP, rlNum, rlCh, rlAx, rlSg, rlOk, inI, icmp]; done) | (simp only [ruleP, rlNum, rlCh, rlAx, rlSg, rlOk, inI, icmp]; simp_all; omega) | (simp only [ruleP, rlNum, rlCh, rlAx, rlSg, rlOk, inI, icmp]; simp; omega)
    have x47 : (ruleP kind).sg = 1 := by first | (simp [ruleP, rlNum, rlCh, rlAx, rlSg, rlOk, inI, icmp, *]; done) | (simp_all [ruleP, rlNum, rlCh, rlAx, rlSg, rlOk, inI, icmp]; done) | (simp only [ruleP, rlNum, rlCh, rlAx, rlSg, rlOk, inI, icmp]; simp_all; omega) | (simp only [ruleP, rlNum, rlCh, rlAx, rlSg, rlOk, inI, icmp]; simp; omega)
    exact ⟨[(Iv 2), (Iv 0), (Bo false), (Iv 1)], (by first | rfl | rw [x43]), (by first | with_reducible rfl | (show _ = _; simp only [x44, x45, x46, x47]) | rfl)⟩
  have c37' := c37
  (try simp only [icmp, Bool.and_eq_true, Bool.or_eq_true, Bool.and_eq_false_iff, Bool.or_eq_false_iff, Bool.not_eq_true', Bool.not_eq_false', decide_eq_true_eq, decide_eq_false_iff_not, beq_iff_eq, bne_iff_ne, beq_eq_false_iff_ne, bne_eq_false_iff_eq] at c37')
  refine wp_region_lit ?_
  refine q_is rfl rfl (does_icmp (p := kind) (q := 3) (.inl rfl) (ev rfl) (ev rfl)) (by dsimp only [List.set]; try rfl) ?_
  refine q_is rfl rfl (does_assign (u := (Bo (icmp .eql kind 3))) (ev rfl)) (by dsimp only [List.set]; try rfl) ?_
  refine wpList_nil (hK35 _ _ ?_)
  refine wp_cond_split (t := icmp .eql kind 3) (ev rfl) (fun c48 => ?_) (fun c48 => ?_)
  · have c48' := c48
    (try simp only [icmp, Bool.and_eq_true, Bool.or_eq_true, Bool.and_eq_false_iff, Bool.or_eq_false_iff, Bool.not_eq_true', Bool.not_eq_false', decide_eq_true_eq, decide_eq_false_iff_not, beq_iff_eq, bne_iff_ne, beq_eq_false_iff_ne, bne_eq_false_iff_eq] at c48')
    refine wp_seq_k fun K49 hK49 => ?_
    refine wp_region_lit ?_
    refine q_is rfl rfl (does_build (parts' := [(0, (Iv 2)), (1, (Iv 0)), (2, (Bo false)), (3, (Iv 1))]) (cells := #[(Iv 2), (Iv 0), (Bo false), (Iv 1)]) (evp rfl) (by kernel_rfl)) (by dsimp only [List.set]; try rfl) ?_
    refine seqn rfl rfl (does_store (n := 4) (cs := [(Iv 0), (Iv 0), (Bo false), (Iv 0)]) (u := (.agg #[(Iv 2), (Iv 0), (Bo false), (Iv 1)])) (ev rfl) (ev rfl) Try.sizeOf65 rfl hB4 (Nat.le_of_ble_eq_true rfl) rfl) ?_; rintro _ w52 ⟨rfl, W50, hB51⟩
    change Blk _ _ [(Iv 2), (Iv 0), (Bo false), (Iv 1)] at hB51
    have X53 := Below.wr X8 W50 g7
    refine q_is rfl rfl (does_assign (u := (Bo true)) (ev rfl)) (by dsimp only [List.set]; try rfl) ?_
    refine wpList_nil (hK49 _ _ ?_)
    refine wp_ret ?_
    dsimp only [Exit.then, Exit.inBlock]
    refine ret_val (v := (.tuple #[(.agg #[(Iv 2), (Iv 0), (Bo false), (Iv 1)]), (Bo true)])) (res_CT rfl (slot rfl) (run_loadAgg (cs := [(Iv 2), (Iv 0), (Bo false), (Iv 1)]) Try.isAgg65 Try.sizeOf65 (Blk.cells hB51) rfl) (slot rfl)) X53 ?_
    have x54 : (rlOk kind) = true := by first | (simp [ruleP, rlNum, rlCh, rlAx, rlSg, rlOk, inI, icmp, *]; done) | (simp_all [ruleP, rlNum, rlCh, rlAx, rlSg, rlOk, inI, icmp]; done) | (simp only [ruleP, rlNum, rlCh, rlAx, rlSg, rlOk, inI, icmp]; simp_all; omega) | (simp only [ruleP, rlNum, rlCh, rlAx, rlSg, rlOk, inI, icmp]; simp; omega)
    have x55 : (ruleP kind).num = 2 := by first | (simp [ruleP, rlNum, rlCh, rlAx, rlSg, rlOk, inI, icmp, *]; done) | (simp_all [ruleP, rlNum, rlCh, rlAx, rlSg, rlOk, inI, icmp]; done) | (simp only [ruleP, rlNum, rlCh, rlAx, rlSg, rlOk, inI, icmp]; simp_all; omega) | (simp only [ruleP, rlNum, rlCh, rlAx, rlSg, rlOk, inI, icmp]; simp; omega)
    have x56 : (ruleP kind).ch = 0 := by first | (simp [ruleP, rlNum, rlCh, rlAx, rlSg, rlOk, inI, icmp, *]; done) | (simp_all [ruleP, rlNum, rlCh, rlAx, rlSg, rlOk, inI, icmp]; done) | (simp only [ruleP, rlNum, rlCh, rlAx, rlSg, rlOk, inI, icmp]; simp_all; omega) | (simp only [ruleP, rlNum, rlCh, rlAx, rlSg, rlOk, inI, icmp]; simp; omega)
    have x57 : (ruleP kind).ax = false := by first | (simp [ruleP, rlNum, rlCh, rlAx, rlSg, rlOk, inI, icmp, *]; done) | (simp_all [ruleP, rlNum, rlCh, rlAx, rlSg, rlOk, inI, icmp]; done) | (simp only [ruleP, rlNum, rlCh, rlAx, rlSg, rlOk, inI, icmp]; simp_all; omega) | (simp only [ruleP, rlNum, rlCh, rlAx, rlSg, rlOk, inI, icmp]; simp; omega)
    have x58 : (ruleP kind).sg = 1 := by first | (simp [ruleP, rlNum, rlCh, rlAx, rlSg, rlOk, inI, icmp, *]; done) | (simp_all [ruleP, rlNum, rlCh, rlAx, rlSg, rlOk, inI, icmp]; done) | (simp only [ruleP, rlNum, rlCh, rlAx, rlSg, rlOk, inI, icmp]; simp_all; omega) | (simp only [ruleP, rlNum, rlCh, rlAx, rlSg, rlOk, inI, icmp]; simp; omega)
    exact ⟨[(Iv 2), (Iv 0), (Bo false), (Iv 1)], (by first | rfl | rw [x54]), (by first | with_reducible rfl | (show _ = _; simp only [x55, x56, x57, x58]) | rfl)⟩
  have c48' := c48
  (try simp only [icmp, Bool.and_eq_true, Bool.or_eq_true, Bool.and_eq_false_iff, Bool.or_eq_false_iff, Bool.not_eq_true', Bool.not_eq_false', decide_eq_true_eq, decide_eq_false_iff_not, beq_iff_eq, bne_iff_ne, beq_eq_false_iff_ne, bne_eq_false_iff_eq] at c48')
  refine wp_seq_k fun K59 hK59 => ?_
  refine wp_region_lit ?_
  refine q_is rfl rfl (does_icmp (p := kind) (q := 4) (.inl rfl) (ev rfl) (ev rfl)) (by dsimp only [List.set]; try rfl) ?_
  refine q_is rfl rfl (does_assign (u := (Bo (icmp .eql kind 4))) (ev rfl)) (by dsimp only [List.set]; try rfl) ?_
  refine wpList_nil (hK59 _ _ ?_)
  refine wp_cond_split (t := icmp .eql kind 4) (ev rfl) (fun c60 => ?_) (fun c60 => ?_)
  · have c60' := c60
    (try simp only [icmp, Bool.and_eq_true, Bool.or_eq_true, Bool.and_eq_false_iff, Bool.or_eq_false_iff, Bool.not_eq_true', Bool.not_eq_false', decide_eq_true_eq, decide_eq_false_iff_not, beq_iff_eq, bne_iff_ne, beq_eq_false_iff_ne, bne_eq_false_iff_eq] at c60')
    refine wp_seq_k fun K61 hK61 => ?_
    refine wp_region_lit ?_
    refine q_is rfl rfl (does_build (parts' := [(0, (Iv 4)), (1, (Iv 0)), (2, (Bo false)), (3, (Iv 0))]) (cells := #[(Iv 4), (Iv 0), (Bo false), (Iv 0)]) (evp rfl) (by kernel_rfl)) (by dsimp only [List.set]; try rfl) ?_
    refine seqn rfl rfl (does_store (n := 4) (cs := [(Iv 0), (Iv 0), (Bo false), (Iv 0)]) (u := (.agg #[(Iv 4), (Iv 0), (Bo false), (Iv 0)])) (ev rfl) (ev rfl) Try.sizeOf65 rfl hB4 (Nat.le_of_ble_eq_true rfl) rfl) ?_; rintro _ w64 ⟨rfl, W62, hB63⟩
    change Blk _ _ [(Iv 4), (Iv 0), (Bo false), (Iv 0)] at hB63
    have X65 := Below.wr X8 W62 g7
    refine q_is rfl rfl (does_assign (u := (Bo true)) (ev rfl)) (by dsimp only [List.set]; try rfl) ?_
    refine wpList_nil (hK61 _ _ ?_)
    refine wp_ret ?_
    dsimp only [Exit.then, Exit.inBlock]
    refine ret_val (v := (.tuple #[(.agg #[(Iv 4), (Iv 0), (Bo false), (Iv 0)]), (Bo true)])) (res_CT rfl (slot rfl) (run_loadAgg (cs := [(Iv 4), (Iv 0), (Bo false), (Iv 0)]) Try.isAgg65 Try.sizeOf65 (Blk.cells hB63) rfl) (slot rfl)) X65 ?_
    have x66 : (rlOk kind) = true := by first | (simp [ruleP, rlNum, rlCh, rlAx, rlSg, rlOk, inI, icmp, *]; done) | (simp_all [ruleP, rlNum, rlCh, rlAx, rlSg, rlOk, inI, icmp]; done) | (simp only [ruleP, rlNum, rlCh, rlAx, rlSg, rlOk, inI, icmp]; simp_all; omega) | (simp only [ruleP, rlNum, rlCh, rlAx, rlSg, rlOk, inI, icmp]; simp; omega)
    have x67 : (ruleP kind).num = 4 := by first | (simp [ruleP, rlNum, rlCh, rlAx, rlSg, rlOk, inI, icmp, *]; done) | (simp_all [ruleP, rlNum, rlCh, rlAx, rlSg, rlOk, inI, icmp]; done) | (simp only [ruleP, rlNum, rlCh, rlAx, rlSg, rlOk, inI, icmp]; simp_all; omega) | (simp only [ruleP, rlNum, rlCh, rlAx, rlSg, rlOk, inI, icmp]; simp; omega)
    have x68 : (ruleP kind).ch = 0 := by first | (simp [ruleP, rlNum, rlCh, rlAx, rlSg, rlOk, inI, icmp, *]; done) | (simp_all [ruleP, rlNum, rlCh, rlAx, rlSg, rlOk, inI, icmp]; done) | (simp only [ruleP, rlNum, rlCh, rlAx, rlSg, rlOk, inI, icmp]; simp_all; omega) | (simp only [ruleP, rlNum, rlCh, rlAx, rlSg, rlOk, inI, icmp]; simp; omega)
    have x69 : (ruleP kind).ax = false := by first | (simp [ruleP, rlNum, rlCh, rlAx, rlSg, rlOk, inI, icmp, *]; done) | (simp_all [ruleP, rlNum, rlCh, rlAx, rlSg, rlOk, inI, icmp]; done) | (simp only [ruleP, rlNum, rlCh, rlAx, rlSg, rlOk, inI, icmp]; simp_all; omega) | (simp only [ruleP, rlNum, rlCh, rlAx, rlSg, rlOk, inI, icmp]; simp; omega)
    have x70 : (ruleP kind).sg = 0 := by first | (simp [ruleP, rlNum, rlCh, rlAx, rlSg, rlOk, inI, icmp, *]; done) | (simp_all [ruleP, rlNum, rlCh, rlAx, rlSg, rlOk, inI, icmp]; done) | (simp only [ruleP, rlNum, rlCh, rlAx, rlSg, rlOk, inI, icmp]; simp_all; omega) | (simp only [ruleP, rlNum, rlCh, rlAx, rlSg, rlOk, inI, icmp]; simp; omega)
    exact ⟨[(Iv 4), (Iv 0), (Bo false), (Iv 0)], (by first | rfl | rw [x66]), (by first | with_reducible rfl | (show _ = _; simp only [x67, x68, x69, x70]) | rfl)⟩
  have c60' := c60
  (try simp only [icmp, Bool.and_eq_true, Bool.or_eq_true, Bool.and_eq_false_iff, Bool.or_eq_false_iff, Bool.not_eq_true', Bool.not_eq_false', decide_eq_true_eq, decide_eq_false_iff_not, beq_iff_eq, bne_iff_ne, beq_eq_false_iff_ne, bne_eq_false_iff_eq] at c60')
  refine wp_seq_k fun K71 hK71 => ?_
  refine wp_seq_k fun K72 hK72 => ?_
  refine wp_region_lit ?_
  refine q_is rfl rfl (does_icmp (p := kind) (q := 5) (.inl rfl) (ev rfl) (ev rfl)) (by dsimp only [List.set]; try rfl) ?_
  refine q_is rfl rfl (does_assign (u := (Bo (icmp .eql kind 5))) (ev rfl)) (by dsimp only [List.set]; try rfl) ?_
  refine wpList_nil (hK72 _ _ ?_)
  refine wp_cond_split (t := icmp .eql kind 5) (ev rfl) (fun c73 => ?_) (fun c73 => ?_)
  · have c73' := c73
    (try simp only [icmp, Bool.and_eq_true, Bool.or_eq_true, Bool.and_eq_false_iff, Bool.or_eq_false_iff, Bool.not_eq_true', Bool.not_eq_false', decide_eq_true_eq, decide_eq_false_iff_not, beq_iff_eq, bne_iff_ne, beq_eq_false_iff_ne, bne_eq_false_iff_eq] at c73')
    refine wp_skip (hK71 _ _ ?_)
    refine wp_cond_true ((ev (rfl : evl _ _ = .bool (icmp .eql kind 5))).trans (congrArg Value.bool c73)) ?_
    refine wp_seq_k fun K74 hK74 => ?_
    refine wp_region_lit ?_
    refine q_is rfl rfl (does_build (parts' := [(0, (Iv 0)), (1, (Iv 2)), (2, (Bo false)), (3, (Iv 0))]) (cells := #[(Iv 0), (Iv 2), (Bo false), (Iv 0)]) (evp rfl) (by kernel_rfl)) (by dsimp only [List.set]; try rfl) ?_
    refine seqn rfl rfl (does_store (n := 4) (cs := [(Iv 0), (Iv 0), (Bo false), (Iv 0)]) (u := (.agg #[(Iv 0), (Iv 2), (Bo false), (Iv 0)])) (ev rfl) (ev rfl) Try.sizeOf65 rfl hB4 (Nat.le_of_ble_eq_true rfl) rfl) ?_; rintro _ w77 ⟨rfl, W75, hB76⟩
    change Blk _ _ [(Iv 0), (Iv 2), (Bo false), (Iv 0)] at hB76
    have X78 := Below.wr X8 W75 g7
    refine q_is rfl rfl (does_assign (u := (Bo true)) (ev rfl)) (by dsimp only [List.set]; try rfl) ?_
    refine wpList_nil (hK74 _ _ ?_)
    refine wp_ret ?_
    dsimp only [Exit.then, Exit.inBlock]
    refine ret_val (v := (.tuple #[(.agg #[(Iv 0), (Iv 2), (Bo false), (Iv 0)]), (Bo true)])) (res_CT rfl (slot rfl) (run_loadAgg (cs := [(Iv 0), (Iv 2), (Bo false), (Iv 0)]) Try.isAgg65 Try.sizeOf65 (Blk.cells hB76) rfl) (slot rfl)) X78 ?_
    have x79 : (rlOk kind) = true := by first | (simp [ruleP, rlNum, rlCh, rlAx, rlSg, rlOk, inI, icmp, *]; done) | (simp_all [ruleP, rlNum, rlCh, rlAx, rlSg, rlOk, inI, icmp]; done) | (simp only [ruleP, rlNum, rlCh, rlAx, rlSg, rlOk, inI, icmp]; simp_all; omega) | (simp only [ruleP, rlNum, rlCh, rlAx, rlSg, rlOk, inI, icmp]; simp; omega)
    have x80 : (ruleP kind).num = 0 := by first | (simp [ruleP, rlNum, rlCh, rlAx, rlSg, rlOk, inI, icmp, *]; done) | (simp_all [ruleP, rlNum, rlCh, rlAx, rlSg, rlOk, inI, icmp]; done) | (simp only [ruleP, rlNum, rlCh, rlAx, rlSg, rlOk, inI, icmp]; simp_all; omega) | (simp only [ruleP, rlNum, rlCh, rlAx, rlSg, rlOk, inI, icmp]; simp; omega)
    have x81 : (ruleP kind).ch = 2 := by first | (simp [ruleP, rlNum, rlCh, rlAx, rlSg, rlOk, inI, icmp, *]; done) | (simp_all [ruleP, rlNum, rlCh, rlAx, rlSg, rlOk, inI, icmp]; done) | (simp only [ruleP, rlNum, rlCh, rlAx, rlSg, rlOk, inI, icmp]; simp_all; omega) | (simp only [ruleP, rlNum, rlCh, rlAx, rlSg, rlOk, inI, icmp]; simp; omega)
    have x82 : (ruleP kind).ax = false := by first | (simp [ruleP, rlNum, rlCh, rlAx, rlSg, rlOk, inI, icmp, *]; done) | (simp_all [ruleP, rlNum, rlCh, rlAx, rlSg, rlOk, inI, icmp]; done) | (simp only [ruleP, rlNum, rlCh, rlAx, rlSg, rlOk, inI, icmp]; simp_all; omega) | (simp only [ruleP, rlNum, rlCh, rlAx, rlSg, rlOk, inI, icmp]; simp; omega)
    have x83 : (ruleP kind).sg = 0 := by first | (simp [ruleP, rlNum, rlCh, rlAx, rlSg, rlOk, inI, icmp, *]; done) | (simp_all [ruleP, rlNum, rlCh, rlAx, rlSg, rlOk, inI, icmp]; done) | (simp only [ruleP, rlNum, rlCh, rlAx, rlSg, rlOk, inI, icmp]; simp_all; omega) | (simp only [ruleP, rlNum, rlCh, rlAx, rlSg, rlOk, inI, icmp]; simp; omega)
    exact ⟨[(Iv 0), (Iv 2), (Bo false), (Iv 0)], (by first | rfl | rw [x79]), (by first | with_reducible rfl | (show _ = _; simp only [x80, x81, x82, x83]) | rfl)⟩
  have c73' := c73
  (try simp only [icmp, Bool.and_eq_true, Bool.or_eq_true, Bool.and_eq_false_iff, Bool.or_eq_false_iff, Bool.not_eq_true', Bool.not_eq_false', decide_eq_true_eq, decide_eq_false_iff_not, beq_iff_eq, bne_iff_ne, beq_eq_false_iff_ne, bne_eq_false_iff_eq] at c73')
  refine wp_seq_k fun K84 hK84 => ?_
  refine wp_region_lit ?_
  refine q_is rfl rfl (does_icmp (p := kind) (q := 6) (.inl rfl) (ev rfl) (ev rfl)) (by dsimp only [List.set]; try rfl) ?_
  refine q_is rfl rfl (does_assign (u := (Bo (icmp .eql kind 6))) (ev rfl)) (by dsimp only [List.set]; try rfl) ?_
  refine wpList_nil (hK84 _ _ ?_)
  refine wp_cond_split (t := icmp .eql kind 6) (ev rfl) (fun c85 => ?_) (fun c85 => ?_)
  · have c85' := c85
    (try simp only [icmp, Bool.and_eq_true, Bool.or_eq_true, Bool.and_eq_false_iff, Bool.or_eq_false_iff, Bool.not_eq_true', Bool.not_eq_false', decide_eq_true_eq, decide_eq_false_iff_not, beq_iff_eq, bne_iff_ne, beq_eq_false_iff_ne, bne_eq_false_iff_eq] at c85')
    refine wp_skip (hK71 _ _ ?_)
    refine wp_cond_true ((ev (rfl : evl _ _ = .bool (icmp .eql kind 6))).trans (congrArg Value.bool c85)) ?_
    refine wp_seq_k fun K86 hK86 => ?_
    refine wp_region_lit ?_
    refine q_is rfl rfl (does_build (parts' := [(0, (Iv 0)), (1, (Iv 2)), (2, (Bo false)), (3, (Iv 0))]) (cells := #[(Iv 0), (Iv 2), (Bo false), (Iv 0)]) (evp rfl) (by kernel_rfl)) (by dsimp only [List.set]; try rfl) ?_
    refine seqn rfl rfl (does_store (n := 4) (cs := [(Iv 0), (Iv 0), (Bo false), (Iv 0)]) (u := (.agg #[(Iv 0), (Iv 2), (Bo false), (Iv 0)])) (ev rfl) (ev rfl) Try.sizeOf65 rfl hB4 (Nat.le_of_ble_eq_true rfl) rfl) ?_; rintro _ w89 ⟨rfl, W87, hB88⟩
    change Blk _ _ [(Iv 0), (Iv 2), (Bo false), (Iv 0)] at hB88
    have X90 := Below.wr X8 W87 g7
    refine q_is rfl rfl (does_assign (u := (Bo true)) (ev rfl)) (by dsimp only [List.set]; try rfl) ?_
    refine wpList_nil (hK86 _ _ ?_)
    refine wp_ret ?_
    dsimp only [Exit.then, Exit.inBlock]
    refine ret_val (v := (.tuple #[(.agg #[(Iv 0), (Iv 2), (Bo false), (Iv 0)]), (Bo true)])) (res_CT rfl (slot rfl) (run_loadAgg (cs := [(Iv 0), (Iv 2), (Bo false), (Iv 0)]) Try.isAgg65 Try.sizeOf65 (Blk.cells hB88) rfl) (slot rfl)) X90 ?_
    have x91 : (rlOk kind) = true := by first | (simp [ruleP, rlNum, rlCh, rlAx, rlSg, rlOk, inI, icmp, *]; done) | (simp_all [ruleP, rlNum, rlCh, rlAx, rlSg, rlOk, inI, icmp]; done) | (simp only [ruleP, rlNum, rlCh, rlAx, rlSg, rlOk, inI, icmp]; simp_all; omega) | (simp only [ruleP, rlNum, rlCh, rlAx, rlSg, rlOk, inI, icmp]; simp; omega)
    have x92 : (ruleP kind).num = 0 := by first | (simp [ruleP, rlNum, rlCh, rlAx, rlSg, rlOk, inI, icmp, *]; done) | (simp_all [ruleP, rlNum, rlCh, rlAx, rlSg, rlOk, inI, icmp]; done) | (simp only [ruleP, rlNum, rlCh, rlAx, rlSg, rlOk, inI, icmp]; simp_all; omega) | (simp only [ruleP, rlNum, rlCh, rlAx, rlSg, rlOk, inI, icmp]; simp; omega)
    have x93 : (ruleP kind).ch = 2 := by first | (simp [ruleP, rlNum, rlCh, rlAx, rlSg, rlOk, inI, icmp, *]; done) | (simp_all [ruleP, rlNum, rlCh, rlAx, rlSg, rlOk, inI, icmp]; done) | (simp only [ruleP, rlNum, rlCh, rlAx, rlSg, rlOk, inI, icmp]; simp_all; omega) | (simp only [ruleP, rlNum, rlCh, rlAx, rlSg, rlOk, inI, icmp]; simp; omega)
    have x94 : (ruleP kind).ax = false := by first | (simp [ruleP, rlNum, rlCh, rlAx, rlSg, rlOk, inI, icmp, *]; done) | (simp_all [ruleP, rlNum, rlCh, rlAx, rlSg, rlOk, inI, icmp]; done) | (simp only [ruleP, rlNum, rlCh, rlAx, rlSg, rlOk, inI, icmp]; simp_all; omega) | (simp only [ruleP, rlNum, rlCh, rlAx, rlSg, rlOk, inI, icmp]; simp; omega)
    have x95 : (ruleP kind).sg = 0 := by first | (simp [ruleP, rlNum, rlCh, rlAx, rlSg, rlOk, inI, icmp, *]; done) | (simp_all [ruleP, rlNum, rlCh, rlAx, rlSg, rlOk, inI, icmp]; done) | (simp only [ruleP, rlNum, rlCh, rlAx, rlSg, rlOk, inI, icmp]; simp_all; omega) | (simp only [ruleP, rlNum, rlCh, rlAx, rlSg, rlOk, inI, icmp]; simp; omega)
    exact ⟨[(Iv 0), (Iv 2), (Bo false), (Iv 0)], (by first | rfl | rw [x91]), (by first | with_reducible rfl | (show _ = _; simp only [x92, x93, x94, x95]) | rfl)⟩
  have c85' := c85
  (try simp only [icmp, Bool.and_eq_true, Bool.or_eq_true, Bool.and_eq_false_iff, Bool.or_eq_false_iff, Bool.not_eq_true', Bool.not_eq_false', decide_eq_true_eq, decide_eq_false_iff_not, beq_iff_eq, bne_iff_ne, beq_eq_false_iff_ne, bne_eq_false_iff_eq] at c85')
  refine wp_region_lit ?_
  refine q_is rfl rfl (does_icmp (p := kind) (q := 7) (.inl rfl) (ev rfl) (ev rfl)) (by dsimp only [List.set]; try rfl) ?_
  refine q_is rfl rfl (does_assign (u := (Bo (icmp .eql kind 7))) (ev rfl)) (by dsimp only [List.set]; try rfl) ?_
  refine wpList_nil (hK71 _ _ ?_)
  refine wp_cond_split (t := icmp .eql kind 7) (ev rfl) (fun c96 => ?_) (fun c96 => ?_)
  · have c96' := c96
    (try simp only [icmp, Bool.and_eq_true, Bool.or_eq_true, Bool.and_eq_false_iff, Bool.or_eq_false_iff, Bool.not_eq_true', Bool.not_eq_false', decide_eq_true_eq, decide_eq_false_iff_not, beq_iff_eq, bne_iff_ne, beq_eq_false_iff_ne, bne_eq_false_iff_eq] at c96')
    refine wp_seq_k fun K97 hK97 => ?_
    refine wp_region_lit ?_
    refine q_is rfl rfl (does_build (parts' := [(0, (Iv 0)), (1, (Iv 2)), (2, (Bo false)), (3, (Iv 0))]) (cells := #[(Iv 0), (Iv 2), (Bo false), (Iv 0)]) (evp rfl) (by kernel_rfl)) (by dsimp only [List.set]; try rfl) ?_
    refine seqn rfl rfl (does_store (n := 4) (cs := [(Iv 0), (Iv 0), (Bo false), (Iv 0)]) (u := (.agg #[(Iv 0), (Iv 2), (Bo false), (Iv 0)])) (ev rfl) (ev rfl) Try.sizeOf65 rfl hB4 (Nat.le_of_ble_eq_true rfl) rfl) ?_; rintro _ w100 ⟨rfl, W98, hB99⟩
    change Blk _ _ [(Iv 0), (Iv 2), (Bo false), (Iv 0)] at hB99
    have X101 := Below.wr X8 W98 g7
    refine q_is rfl rfl (does_assign (u := (Bo true)) (ev rfl)) (by dsimp only [List.set]; try rfl) ?_
    refine wpList_nil (hK97 _ _ ?_)
    refine wp_ret ?_
    dsimp only [Exit.then, Exit.inBlock]
    refine ret_val (v := (.tuple #[(.agg #[(Iv 0), (Iv 2), (Bo false), (Iv 0)]), (Bo true)])) (res_CT rfl (slot rfl) (run_loadAgg (cs := [(Iv 0), (Iv 2), (Bo false), (Iv 0)]) Try.isAgg65 Try.sizeOf65 (Blk.cells hB99) rfl) (slot rfl)) X101 ?_
    have x102 : (rlOk kind) = true := by first | (simp [ruleP, rlNum, rlCh, rlAx, rlSg, rlOk, inI, icmp, *]; done) | (simp_all [ruleP, rlNum, rlCh, rlAx, rlSg, rlOk, inI, icmp]; done) | (simp only [ruleP, rlNum, rlCh, rlAx, rlSg, rlOk, inI, icmp]; simp_all; omega) | (simp only [ruleP, rlNum, rlCh, rlAx, rlSg, rlOk, inI, icmp]; simp; omega)
    have x103 : (ruleP kind).num = 0 := by first | (simp [ruleP, rlNum, rlCh, rlAx, rlSg, rlOk, inI, icmp, *]; done) | (simp_all [ruleP, rlNum, rlCh, rlAx, rlSg, rlOk, inI, icmp]; done) | (simp only [ruleP, rlNum, rlCh, rlAx, rlSg, rlOk, inI, icmp]; simp_all; omega) | (simp only [ruleP, rlNum, rlCh, rlAx, rlSg, rlOk, inI, icmp]; simp; omega)
    have x104 : (ruleP kind).ch = 2 := by first | (simp [ruleP, rlNum, rlCh, rlAx, rlSg, rlOk, inI, icmp, *]; done) | (simp_all [ruleP, rlNum, rlCh, rlAx, rlSg, rlOk, inI, icmp]; done) | (simp only [ruleP, rlNum, rlCh, rlAx, rlSg, rlOk, inI, icmp]; simp_all; omega) | (simp only [ruleP, rlNum, rlCh, rlAx, rlSg, rlOk, inI, icmp]; simp; omega)
    have x105 : (ruleP kind).ax = false := by first | (simp [ruleP, rlNum, rlCh, rlAx, rlSg, rlOk, inI, icmp, *]; done) | (simp_all [ruleP, rlNum, rlCh, rlAx, rlSg, rlOk, inI, icmp]; done) | (simp only [ruleP, rlNum, rlCh, rlAx, rlSg, rlOk, inI, icmp]; simp_all; omega) | (simp only [ruleP, rlNum, rlCh, rlAx, rlSg, rlOk, inI, icmp]; simp; omega)
    have x106 : (ruleP kind).sg = 0 := by first | (simp [ruleP, rlNum, rlCh, rlAx, rlSg, rlOk, inI, icmp, *]; done) | (simp_all [ruleP, rlNum, rlCh, rlAx, rlSg, rlOk, inI, icmp]; done) | (simp only [ruleP, rlNum, rlCh, rlAx, rlSg, rlOk, inI, icmp]; simp_all; omega) | (simp only [ruleP, rlNum, rlCh, rlAx, rlSg, rlOk, inI, icmp]; simp; omega)
    exact ⟨[(Iv 0), (Iv 2), (Bo false), (Iv 0)], (by first | rfl | rw [x102]), (by first | with_reducible rfl | (show _ = _; simp only [x103, x104, x105, x106]) | rfl)⟩
  have c96' := c96
  (try simp only [icmp, Bool.and_eq_true, Bool.or_eq_true, Bool.and_eq_false_iff, Bool.or_eq_false_iff, Bool.not_eq_true', Bool.not_eq_false', decide_eq_true_eq, decide_eq_false_iff_not, beq_iff_eq, bne_iff_ne, beq_eq_false_iff_ne, bne_eq_false_iff_eq] at c96')
  refine wp_seq_k fun K107 hK107 => ?_
  refine wp_region_lit ?_
  refine q_is rfl rfl (does_icmp (p := kind) (q := 8) (.inl rfl) (ev rfl) (ev rfl)) (by dsimp only [List.set]; try rfl) ?_
  refine q_is rfl rfl (does_assign (u := (Bo (icmp .eql kind 8))) (ev rfl)) (by dsimp only [List.set]; try rfl) ?_
  refine wpList_nil (hK107 _ _ ?_)
  refine wp_cond_split (t := icmp .eql kind 8) (ev rfl) (fun c108 => ?_) (fun c108 => ?_)
  · have c108' := c108
    (try simp only [icmp, Bool.and_eq_true, Bool.or_eq_true, Bool.and_eq_false_iff, Bool.or_eq_false_iff, Bool.not_eq_true', Bool.not_eq_false', decide_eq_true_eq, decide_eq_false_iff_not, beq_iff_eq, bne_iff_ne, beq_eq_false_iff_ne, bne_eq_false_iff_eq] at c108')
    refine wp_seq_k fun K109 hK109 => ?_
    refine wp_region_lit ?_
    refine q_is rfl rfl (does_build (parts' := [(0, (Iv 1)), (1, (Iv 2)), (2, (Bo false)), (3, (Iv 2))]) (cells := #[(Iv 1), (Iv 2), (Bo false), (Iv 2)]) (evp rfl) (by kernel_rfl)) (by dsimp only [List.set]; try rfl) ?_
    refine seqn rfl rfl (does_store (n := 4) (cs := [(Iv 0), (Iv 0), (Bo false), (Iv 0)]) (u := (.agg #[(Iv 1), (Iv 2), (Bo false), (Iv 2)])) (ev rfl) (ev rfl) Try.sizeOf65 rfl hB4 (Nat.le_of_ble_eq_true rfl) rfl) ?_; rintro _ w112 ⟨rfl, W110, hB111⟩
    change Blk _ _ [(Iv 1), (Iv 2), (Bo false), (Iv 2)] at hB111
    have X113 := Below.wr X8 W110 g7
    refine q_is rfl rfl (does_assign (u := (Bo true)) (ev rfl)) (by dsimp only [List.set]; try rfl) ?_
    refine wpList_nil (hK109 _ _ ?_)
    refine wp_ret ?_
    dsimp only [Exit.then, Exit.inBlock]
    refine ret_val (v := (.tuple #[(.agg #[(Iv 1), (Iv 2), (Bo false), (Iv 2)]), (Bo true)])) (res_CT rfl (slot rfl) (run_loadAgg (cs := [(Iv 1), (Iv 2), (Bo false), (Iv 2)]) Try.isAgg65 Try.sizeOf65 (Blk.cells hB111) rfl) (slot rfl)) X113 ?_
    have x114 : (rlOk kind) = true := by first | (simp [ruleP, rlNum, rlCh, rlAx, rlSg, rlOk, inI, icmp, *]; done) | (simp_all [ruleP, rlNum, rlCh, rlAx, rlSg, rlOk, inI, icmp]; done) | (simp only [ruleP, rlNum, rlCh, rlAx, rlSg, rlOk, inI, icmp]; simp_all; omega) | (simp only [ruleP, rlNum, rlCh, rlAx, rlSg, rlOk, inI, icmp]; simp; omega)
    have x115 : (ruleP kind).num = 1 := by first | (simp [ruleP, rlNum, rlCh, rlAx, rlSg, rlOk, inI, icmp, *]; done) | (simp_all [ruleP, rlNum, rlCh, rlAx, rlSg, rlOk, inI, icmp]; done) | (simp only [ruleP, rlNum, rlCh, rlAx, rlSg, rlOk, inI, icmp]; simp_all; omega) | (simp only [ruleP, rlNum, rlCh, rlAx, rlSg, rlOk, inI, icmp]; simp; omega)
    have x116 : (ruleP kind).ch = 2 := by first | (simp [ruleP, rlNum, rlCh, rlAx, rlSg, rlOk, inI, icmp, *]; done) | (simp_all [ruleP, rlNum, rlCh, rlAx, rlSg, rlOk, inI, icmp]; done) | (simp only [ruleP, rlNum, rlCh, rlAx, rlSg, rlOk, inI, icmp]; simp_all; omega) | (simp only [ruleP, rlNum, rlCh, rlAx, rlSg, rlOk, inI, icmp]; simp; omega)
    have x117 : (ruleP kind).ax = false := by first | (simp [ruleP, rlNum, rlCh, rlAx, rlSg, rlOk, inI, icmp, *]; done) | (simp_all [ruleP, rlNum, rlCh, rlAx, rlSg, rlOk, inI, icmp]; done) | (simp only [ruleP, rlNum, rlCh, rlAx, rlSg, rlOk, inI, icmp]; simp_all; omega) | (simp only [ruleP, rlNum, rlCh, rlAx, rlSg, rlOk, inI, icmp]; simp; omega)
    have x118 : (ruleP kind).sg = 2 := by first | (simp [ruleP, rlNum, rlCh, rlAx, rlSg, rlOk, inI, icmp, *]; done) | (simp_all [ruleP, rlNum, rlCh, rlAx, rlSg, rlOk, inI, icmp]; done) | (simp only [ruleP, rlNum, rlCh, rlAx, rlSg, rlOk, inI, icmp]; simp_all; omega) | (simp only [ruleP, rlNum, rlCh, rlAx, rlSg, rlOk, inI, icmp]; simp; omega)
    exact ⟨[(Iv 1), (Iv 2), (Bo false), (Iv 2)], (by first | rfl | rw [x114]), (by first | with_reducible rfl | (show _ = _; simp only [x115, x116, x117, x118]) | rfl)⟩
  have c108' := c108
  (try simp only [icmp, Bool.and_eq_true, Bool.or_eq_true, Bool.and_eq_false_iff, Bool.or_eq_false_iff, Bool.not_eq_true', Bool.not_eq_false', decide_eq_true_eq, decide_eq_false_iff_not, beq_iff_eq, bne_iff_ne, beq_eq_false_iff_ne, bne_eq_false_iff_eq] at c108')
  refine wp_seq_k fun K119 hK119 => ?_
  refine wp_region_lit ?_
  refine q_is rfl rfl (does_icmp (p := kind) (q := 9) (.inl rfl) (ev rfl) (ev rfl)) (by dsimp only [List.set]; try rfl) ?_
  refine q_is rfl rfl (does_assign (u := (Bo (icmp .eql kind 9))) (ev rfl)) (by dsimp only [List.set]; try rfl) ?_
  refine wpList_nil (hK119 _ _ ?_)
  refine wp_cond_split (t := icmp .eql kind 9) (ev rfl) (fun c120 => ?_) (fun c120 => ?_)
  · have c120' := c120
    (try simp only [icmp, Bool.and_eq_true, Bool.or_eq_true, Bool.and_eq_false_iff, Bool.or_eq_false_iff, Bool.not_eq_true', Bool.not_eq_false', decide_eq_true_eq, decide_eq_false_iff_not, beq_iff_eq, bne_iff_ne, beq_eq_false_iff_ne, bne_eq_false_iff_eq] at c120')
    refine wp_seq_k fun K121 hK121 => ?_
    refine wp_region_lit ?_
    refine q_is rfl rfl (does_build (parts' := [(0, (Iv 3)), (1, (Iv 1)), (2, (Bo false)), (3, (Iv 0))]) (cells := #[(Iv 3), (Iv 1), (Bo false), (Iv 0)]) (evp rfl) (by kernel_rfl)) (by dsimp only [List.set]; try rfl) ?_
    refine seqn rfl rfl (does_store (n := 4) (cs := [(Iv 0), (Iv 0), (Bo false), (Iv 0)]) (u := (.agg #[(Iv 3), (Iv 1), (Bo false), (Iv 0)])) (ev rfl) (ev rfl) Try.sizeOf65 rfl hB4 (Nat.le_of_ble_eq_true rfl) rfl) ?_; rintro _ w124 ⟨rfl, W122, hB123⟩
    change Blk _ _ [(Iv 3), (Iv 1), (Bo false), (Iv 0)] at hB123
    have X125 := Below.wr X8 W122 g7
    refine q_is rfl rfl (does_assign (u := (Bo true)) (ev rfl)) (by dsimp only [List.set]; try rfl) ?_
    refine wpList_nil (hK121 _ _ ?_)
    refine wp_ret ?_
    dsimp only [Exit.then, Exit.inBlock]
    refine ret_val (v := (.tuple #[(.agg #[(Iv 3), (Iv 1), (Bo false), (Iv 0)]), (Bo true)])) (res_CT rfl (slot rfl) (run_loadAgg (cs := [(Iv 3), (Iv 1), (Bo false), (Iv 0)]) Try.isAgg65 Try.sizeOf65 (Blk.cells hB123) rfl) (slot rfl)) X125 ?_
    have x126 : (rlOk kind) = true := by first | (simp [ruleP, rlNum, rlCh, rlAx, rlSg, rlOk, inI, icmp, *]; done) | (simp_all [ruleP, rlNum, rlCh, rlAx, rlSg, rlOk, inI, icmp]; done) | (simp only [ruleP, rlNum, rlCh, rlAx, rlSg, rlOk, inI, icmp]; simp_all; omega) | (simp only [ruleP, rlNum, rlCh, rlAx, rlSg, rlOk, inI, icmp]; simp; omega)
    have x127 : (ruleP kind).num = 3 := by first | (simp [ruleP, rlNum, rlCh, rlAx, rlSg, rlOk, inI, icmp, *]; done) | (simp_all [ruleP, rlNum, rlCh, rlAx, rlSg, rlOk, inI, icmp]; done) | (simp only [ruleP, rlNum, rlCh, rlAx, rlSg, rlOk, inI, icmp]; simp_all; omega) | (simp only [ruleP, rlNum, rlCh, rlAx, rlSg, rlOk, inI, icmp]; simp; omega)
    have x128 : (ruleP kind).ch = 1 := by first | (simp [ruleP, rlNum, rlCh, rlAx, rlSg, rlOk, inI, icmp, *]; done) | (simp_all [ruleP, rlNum, rlCh, rlAx, rlSg, rlOk, inI, icmp]; done) | (simp only [ruleP, rlNum, rlCh, rlAx, rlSg, rlOk, inI, icmp]; simp_all; omega) | (simp only [ruleP, rlNum, rlCh, rlAx, rlSg, rlOk, inI, icmp]; simp; omega)
    have x129 : (ruleP kind).ax = false := by first | (simp [ruleP, rlNum, rlCh, rlAx, rlSg, rlOk, inI, icmp, *]; done) | (simp_all [ruleP, rlNum, rlCh, rlAx, rlSg, rlOk, inI, icmp]; done) | (simp only [ruleP, rlNum, rlCh, rlAx, rlSg, rlOk, inI, icmp]; simp_all; omega) | (simp only [ruleP, rlNum, rlCh, rlAx, rlSg, rlOk, inI, icmp]; simp; omega)
    have x130 : (ruleP kind).sg = 0 := by first | (simp [ruleP, rlNum, rlCh, rlAx, rlSg, rlOk, inI, icmp, *]; done) | (simp_all [ruleP, rlNum, rlCh, rlAx, rlSg, rlOk, inI, icmp]; done) | (simp only [ruleP, rlNum, rlCh, rlAx, rlSg, rlOk, inI, icmp]; simp_all; omega) | (simp only [ruleP, rlNum, rlCh, rlAx, rlSg, rlOk, inI, icmp]; simp; omega)
    exact ⟨[(Iv 3), (Iv 1), (Bo false), (Iv 0)], (by first | rfl | rw [x126]), (by first | with_reducible rfl | (show _ = _; simp only [x127, x128, x129, x130]) | rfl)⟩
  have c120' := c120
  (try simp only [icmp, Bool.and_eq_true, Bool.or_eq_true, Bool.and_eq_false_iff, Bool.or_eq_false_iff, Bool.not_eq_true', Bool.not_eq_false', decide_eq_true_eq, decide_eq_false_iff_not, beq_iff_eq, bne_iff_ne, beq_eq_false_iff_ne, bne_eq_false_iff_eq] at c120')
  refine wp_seq_k fun K131 hK131 => ?_
  refine wp_region_lit ?_
  refine q_is rfl rfl (does_icmp (p := kind) (q := 10) (.inl rfl) (ev rfl) (ev rfl)) (by dsimp only [List.set]; try rfl) ?_
  refine q_is rfl rfl (does_assign (u := (Bo (icmp .eql kind 10))) (ev rfl)) (by dsimp only [List.set]; try rfl) ?_
  refine wpList_nil (hK131 _ _ ?_)
  refine wp_cond_split (t := icmp .eql kind 10) (ev rfl) (fun c132 => ?_) (fun c132 => ?_)
  · have c132' := c132
    (try simp only [icmp, Bool.and_eq_true, Bool.or_eq_true, Bool.and_eq_false_iff, Bool.or_eq_false_iff, Bool.not_eq_true', Bool.not_eq_false', decide_eq_true_eq, decide_eq_false_iff_not, beq_iff_eq, bne_iff_ne, beq_eq_false_iff_ne, bne_eq_false_iff_eq] at c132')
    refine wp_seq_k fun K133 hK133 => ?_
    refine wp_region_lit ?_
    refine q_is rfl rfl (does_build (parts' := [(0, (Iv 1)), (1, (Iv 1)), (2, (Bo false)), (3, (Iv 2))]) (cells := #[(Iv 1), (Iv 1), (Bo false), (Iv 2)]) (evp rfl) (by kernel_rfl)) (by dsimp only [List.set]; try rfl) ?_
    refine seqn rfl rfl (does_store (n := 4) (cs := [(Iv 0), (Iv 0), (Bo false), (Iv 0)]) (u := (.agg #[(Iv 1), (Iv 1), (Bo false), (Iv 2)])) (ev rfl) (ev rfl) Try.sizeOf65 rfl hB4 (Nat.le_of_ble_eq_true rfl) rfl) ?_; rintro _ w136 ⟨rfl, W134, hB135⟩
    change Blk _ _ [(Iv 1), (Iv 1), (Bo false), (Iv 2)] at hB135
    have X137 := Below.wr X8 W134 g7
    refine q_is rfl rfl (does_assign (u := (Bo true)) (ev rfl)) (by dsimp only [List.set]; try rfl) ?_
    refine wpList_nil (hK133 _ _ ?_)
    refine wp_ret ?_
    dsimp only [Exit.then, Exit.inBlock]
    refine ret_val (v := (.tuple #[(.agg #[(Iv 1), (Iv 1), (Bo false), (Iv 2)]), (Bo true)])) (res_CT rfl (slot rfl) (run_loadAgg (cs := [(Iv 1), (Iv 1), (Bo false), (Iv 2)]) Try.isAgg65 Try.sizeOf65 (Blk.cells hB135) rfl) (slot rfl)) X137 ?_
    have x138 : (rlOk kind) = true := by first | (simp [ruleP, rlNum, rlCh, rlAx, rlSg, rlOk, inI, icmp, *]; done) | (simp_all [ruleP, rlNum, rlCh, rlAx, rlSg, rlOk, inI, icmp]; done) | (simp only [ruleP, rlNum, rlCh, rlAx, rlSg, rlOk, inI, icmp]; simp_all; omega) | (simp only [ruleP, rlNum, rlCh, rlAx, rlSg, rlOk, inI, icmp]; simp; omega)
    have x139 : (ruleP kind).num = 1 := by first | (simp [ruleP, rlNum, rlCh, rlAx, rlSg, rlOk, inI, icmp, *]; done) | (simp_all [ruleP, rlNum, rlCh, rlAx, rlSg, rlOk, inI, icmp]; done) | (simp only [ruleP, rlNum, rlCh, rlAx, rlSg, rlOk, inI, icmp]; simp_all; omega) | (simp only [ruleP, rlNum, rlCh, rlAx, rlSg, rlOk, inI, icmp]; simp; omega)
    have x140 : (ruleP kind).ch = 1 := by first | (simp [ruleP, rlNum, rlCh, rlAx, rlSg, rlOk, inI, icmp, *]; done) | (simp_all [ruleP, rlNum, rlCh, rlAx, rlSg, rlOk, inI, icmp]; done) | (simp only [ruleP, rlNum, rlCh, rlAx, rlSg, rlOk, inI, icmp]; simp_all; omega) | (simp only [ruleP, rlNum, rlCh, rlAx, rlSg, rlOk, inI, icmp]; simp; omega)
    have x141 : (ruleP kind).ax = false := by first | (simp [ruleP, rlNum, rlCh, rlAx, rlSg, rlOk, inI, icmp, *]; done) | (simp_all [ruleP, rlNum, rlCh, rlAx, rlSg, rlOk, inI, icmp]; done) | (simp only [ruleP, rlNum, rlCh, rlAx, rlSg, rlOk, inI, icmp]; simp_all; omega) | (simp only [ruleP, rlNum, rlCh, rlAx, rlSg, rlOk, inI, icmp]; simp; omega)
    have x142 : (ruleP kind).sg = 2 := by first | (simp [ruleP, rlNum, rlCh, rlAx, rlSg, rlOk, inI, icmp, *]; done) | (simp_all [ruleP, rlNum, rlCh, rlAx, rlSg, rlOk, inI, icmp]; done) | (simp only [ruleP, rlNum, rlCh, rlAx, rlSg, rlOk, inI, icmp]; simp_all; omega) | (simp only [ruleP, rlNum, rlCh, rlAx, rlSg, rlOk, inI, icmp]; simp; omega)
    exact ⟨[(Iv 1), (Iv 1), (Bo false), (Iv 2)], (by first | rfl | rw [x138]), (by first | with_reducible rfl | (show _ = _; simp only [x139, x140, x141, x142]) | rfl)⟩
  have c132' := c132
  (try simp only [icmp, Bool.and_eq_true, Bool.or_eq_true, Bool.and_eq_false_iff, Bool.or_eq_false_iff, Bool.not_eq_true', Bool.not_eq_false', decide_eq_true_eq, decide_eq_false_iff_not, beq_iff_eq, bne_iff_ne, beq_eq_false_iff_ne, bne_eq_false_iff_eq] at c132')
  refine wp_seq_k fun K143 hK143 => ?_
  refine wp_region_lit ?_
  refine q_is rfl rfl (does_icmp (p := kind) (q := 11) (.inl rfl) (ev rfl) (ev rfl)) (by dsimp only [List.set]; try rfl) ?_
  refine q_is rfl rfl (does_assign (u := (Bo (icmp .eql kind 11))) (ev rfl)) (by dsimp only [List.set]; try rfl) ?_
  refine wpList_nil (hK143 _ _ ?_)
  refine wp_cond_split (t := icmp .eql kind 11) (ev rfl) (fun c144 => ?_) (fun c144 => ?_)
  · have c144' := c144
    (try simp only [icmp, Bool.and_eq_true, Bool.or_eq_true, Bool.and_eq_false_iff, Bool.or_eq_false_iff, Bool.not_eq_true', Bool.not_eq_false', decide_eq_true_eq, decide_eq_false_iff_not, beq_iff_eq, bne_iff_ne, beq_eq_false_iff_ne, bne_eq_false_iff_eq] at c144')
    refine wp_seq_k fun K145 hK145 => ?_
    refine wp_region_lit ?_
    refine q_is rfl rfl (does_build (parts' := [(0, (Iv 3)), (1, (Iv 1)), (2, (Bo false)), (3, (Iv 2))]) (cells := #[(Iv 3), (Iv 1), (Bo false), (Iv 2)]) (evp rfl) (by kernel_rfl)) (by dsimp only [List.set]; try rfl) ?_
    refine seqn rfl rfl (does_store (n := 4) (cs := [(Iv 0), (Iv 0), (Bo false), (Iv 0)]) (u := (.agg #[(Iv 3), (Iv 1), (Bo false), (Iv 2)])) (ev rfl) (ev rfl) Try.sizeOf65 rfl hB4 (Nat.le_of_ble_eq_true rfl) rfl) ?_; rintro _ w148 ⟨rfl, W146, hB147⟩
    change Blk _ _ [(Iv 3), (Iv 1), (Bo false), (Iv 2)] at hB147
    have X149 := Below.wr X8 W146 g7
    refine q_is rfl rfl (does_assign (u := (Bo true)) (ev rfl)) (by dsimp only [List.set]; try rfl) ?_
    refine wpList_nil (hK145 _ _ ?_)
    refine wp_ret ?_
    dsimp only [Exit.then, Exit.inBlock]
    refine ret_val (v := (.tuple #[(.agg #[(Iv 3), (Iv 1), (Bo false), (Iv 2)]), (Bo true)])) (res_CT rfl (slot rfl) (run_loadAgg (cs := [(Iv 3), (Iv 1), (Bo false), (Iv 2)]) Try.isAgg65 Try.sizeOf65 (Blk.cells hB147) rfl) (slot rfl)) X149 ?_
    have x150 : (rlOk kind) = true := by first | (simp [ruleP, rlNum, rlCh, rlAx, rlSg, rlOk, inI, icmp, *]; done) | (simp_all [ruleP, rlNum, rlCh, rlAx, rlSg, rlOk, inI, icmp]; done) | (simp only [ruleP, rlNum, rlCh, rlAx, rlSg, rlOk, inI, icmp]; simp_all; omega) | (simp only [ruleP, rlNum, rlCh, rlAx, rlSg, rlOk, inI, icmp]; simp; omega)
    have x151 : (ruleP kind).num = 3 := by first | (simp [ruleP, rlNum, rlCh, rlAx, rlSg, rlOk, inI, icmp, *]; done) | (simp_all [ruleP, rlNum, rlCh, rlAx, rlSg, rlOk, inI, icmp]; done) | (simp only [ruleP, rlNum, rlCh, rlAx, rlSg, rlOk, inI, icmp]; simp_all; omega) | (simp only [ruleP, rlNum, rlCh, rlAx, rlSg, rlOk, inI, icmp]; simp; omega)
    have x152 : (ruleP kind).ch = 1 := by first | (simp [ruleP, rlNum, rlCh, rlAx, rlSg, rlOk, inI, icmp, *]; done) | (simp_all [ruleP, rlNum, rlCh, rlAx, rlSg, rlOk, inI, icmp]; done) | (simp only [ruleP, rlNum, rlCh, rlAx, rlSg, rlOk, inI, icmp]; simp_all; omega) | (simp only [ruleP, rlNum, rlCh, rlAx, rlSg, rlOk, inI, icmp]; simp; omega)
    have x153 : (ruleP kind).ax = false := by first | (simp [ruleP, rlNum, rlCh, rlAx, rlSg, rlOk, inI, icmp, *]; done) | (simp_all [ruleP, rlNum, rlCh, rlAx, rlSg, rlOk, inI, icmp]; done) | (simp only [ruleP, rlNum, rlCh, rlAx, rlSg, rlOk, inI, icmp]; simp_all; omega) | (simp only [ruleP, rlNum, rlCh, rlAx, rlSg, rlOk, inI, icmp]; simp; omega)
    have x154 : (ruleP kind).sg = 2 := by first | (simp [ruleP, rlNum, rlCh, rlAx, rlSg, rlOk, inI, icmp, *]; done) | (simp_all [ruleP, rlNum, rlCh, rlAx, rlSg, rlOk, inI, icmp]; done) | (simp only [ruleP, rlNum, rlCh, rlAx, rlSg, rlOk, inI, icmp]; simp_all; omega) | (simp only [ruleP, rlNum, rlCh, rlAx, rlSg, rlOk, inI, icmp]; simp; omega)
    exact ⟨[(Iv 3), (Iv 1), (Bo false), (Iv 2)], (by first | rfl | rw [x150]), (by first | with_reducible rfl | (show _ = _; simp only [x151, x152, x153, x154]) | rfl)⟩
  have c144' := c144
  (try simp only [icmp, Bool.and_eq_true, Bool.or_eq_true, Bool.and_eq_false_iff, Bool.or_eq_false_iff, Bool.not_eq_true', Bool.not_eq_false', decide_eq_true_eq, decide_eq_false_iff_not, beq_iff_eq, bne_iff_ne, beq_eq_false_iff_ne, bne_eq_false_iff_eq] at c144')
  refine wp_seq_k fun K155 hK155 => ?_
  refine wp_region_lit ?_
  refine q_is rfl rfl (does_icmp (p := kind) (q := 12) (.inl rfl) (ev rfl) (ev rfl)) (by dsimp only [List.set]; try rfl) ?_
  refine q_is rfl rfl (does_assign (u := (Bo (icmp .eql kind 12))) (ev rfl)) (by dsimp only [List.set]; try rfl) ?_
  refine wpList_nil (hK155 _ _ ?_)
  refine wp_cond_split (t := icmp .eql kind 12) (ev rfl) (fun c156 => ?_) (fun c156 => ?_)
  · have c156' := c156
    (try simp only [icmp, Bool.and_eq_true, Bool.or_eq_true, Bool.and_eq_false_iff, Bool.or_eq_false_iff, Bool.not_eq_true', Bool.not_eq_false', decide_eq_true_eq, decide_eq_false_iff_not, beq_iff_eq, bne_iff_ne, beq_eq_false_iff_ne, bne_eq_false_iff_eq] at c156')
    refine wp_seq_k fun K157 hK157 => ?_
    refine wp_region_lit ?_
    refine q_is rfl rfl (does_build (parts' := [(0, (Iv 1)), (1, (Iv 1)), (2, (Bo true)), (3, (Iv 0))]) (cells := #[(Iv 1), (Iv 1), (Bo true), (Iv 0)]) (evp rfl) (by kernel_rfl)) (by dsimp only [List.set]; try rfl) ?_
    refine seqn rfl rfl (does_store (n := 4) (cs := [(Iv 0), (Iv 0), (Bo false), (Iv 0)]) (u := (.agg #[(Iv 1), (Iv 1), (Bo true), (Iv 0)])) (ev rfl) (ev rfl) Try.sizeOf65 rfl hB4 (Nat.le_of_ble_eq_true rfl) rfl) ?_; rintro _ w160 ⟨rfl, W158, hB159⟩
    change Blk _ _ [(Iv 1), (Iv 1), (Bo true), (Iv 0)] at hB159
    have X161 := Below.wr X8 W158 g7
    refine q_is rfl rfl (does_assign (u := (Bo true)) (ev rfl)) (by dsimp only [List.set]; try rfl) ?_
    refine wpList_nil (hK157 _ _ ?_)
    refine wp_ret ?_
    dsimp only [Exit.then, Exit.inBlock]
    refine ret_val (v := (.tuple #[(.agg #[(Iv 1), (Iv 1), (Bo true), (Iv 0)]), (Bo true)])) (res_CT rfl (slot rfl) (run_loadAgg (cs := [(Iv 1), (Iv 1), (Bo true), (Iv 0)]) Try.isAgg65 Try.sizeOf65 (Blk.cells hB159) rfl) (slot rfl)) X161 ?_
    have x162 : (rlOk kind) = true := by first | (simp [ruleP, rlNum, rlCh, rlAx, rlSg, rlOk, inI, icmp, *]; done) | (simp_all [ruleP, rlNum, rlCh, rlAx, rlSg, rlOk, inI, icmp]; done) | (simp only [ruleP, rlNum, rlCh, rlAx, rlSg, rlOk, inI, icmp]; simp_all; omega) | (simp only [ruleP, rlNum, rlCh, rlAx, rlSg, rlOk, inI, icmp]; simp; omega)
    have x163 : (ruleP kind).num = 1 := by first | (simp [ruleP, rlNum, rlCh, rlAx, rlSg, rlOk, inI, icmp, *]; done) | (simp_all [ruleP, rlNum, rlCh, rlAx, rlSg, rlOk, inI, icmp]; done) | (simp only [ruleP, rlNum, rlCh, rlAx, rlSg, rlOk, inI, icmp]; simp_all; omega) | (simp only [ruleP, rlNum, rlCh, rlAx, rlSg, rlOk, inI, icmp]; simp; omega)
    have x164 : (ruleP kind).ch = 1 := by first | (simp [ruleP, rlNum, rlCh, rlAx, rlSg, rlOk, inI, icmp, *]; done) | (simp_all [ruleP, rlNum, rlCh, rlAx, rlSg, rlOk, inI, icmp]; done) | (simp only [ruleP, rlNum, rlCh, rlAx, rlSg, rlOk, inI, icmp]; simp_all; omega) | (simp only [ruleP, rlNum, rlCh, rlAx, rlSg, rlOk, inI, icmp]; simp; omega)
    have x165 : (ruleP kind).ax = true := by first | (simp [ruleP, rlNum, rlCh, rlAx, rlSg, rlOk, inI, icmp, *]; done) | (simp_all [ruleP, rlNum, rlCh, rlAx, rlSg, rlOk, inI, icmp]; done) | (simp only [ruleP, rlNum, rlCh, rlAx, rlSg, rlOk, inI, icmp]; simp_all; omega) | (simp only [ruleP, rlNum, rlCh, rlAx, rlSg, rlOk, inI, icmp]; simp; omega)
    have x166 : (ruleP kind).sg = 0 := by first | (simp [ruleP, rlNum, rlCh, rlAx, rlSg, rlOk, inI, icmp, *]; done) | (simp_all [ruleP, rlNum, rlCh, rlAx, rlSg, rlOk, inI, icmp]; done) | (simp only [ruleP, rlNum, rlCh, rlAx, rlSg, rlOk, inI, icmp]; simp_all; omega) | (simp only [ruleP, rlNum, rlCh, rlAx, rlSg, rlOk, inI, icmp]; simp; omega)
    exact ⟨[(Iv 1), (Iv 1), (Bo true), (Iv 0)], (by first | rfl | rw [x162]), (by first | with_reducible rfl | (show _ = _; simp only [x163, x164, x165, x166]) | rfl)⟩
  have c156' := c156
  (try simp only [icmp, Bool.and_eq_true, Bool.or_eq_true, Bool.and_eq_false_iff, Bool.or_eq_false_iff, Bool.not_eq_true', Bool.not_eq_false', decide_eq_true_eq, decide_eq_false_iff_not, beq_iff_eq, bne_iff_ne, beq_eq_false_iff_ne, bne_eq_false_iff_eq] at c156')
  refine wp_seq_k fun K167 hK167 => ?_
  refine wp_region_lit ?_
  refine q_is rfl rfl (does_icmp (p := kind) (q := 13) (.inl rfl) (ev rfl) (ev rfl)) (by dsimp only [List.set]; try rfl) ?_
  refine q_is rfl rfl (does_assign (u := (Bo (icmp .eql kind 13))) (ev rfl)) (by dsimp only [List.set]; try rfl) ?_
  refine wpList_nil (hK167 _ _ ?_)
  refine wp_cond_split (t := icmp .eql kind 13) (ev rfl) (fun c168 => ?_) (fun c168 => ?_)
  · have c168' := c168
    (try simp only [icmp, Bool.and_eq_true, Bool.or_eq_true, Bool.and_eq_false_iff, Bool.or_eq_false_iff, Bool.not_eq_true', Bool.not_eq_false', decide_eq_true_eq, decide_eq_false_iff_not, beq_iff_eq, bne_iff_ne, beq_eq_false_iff_ne, bne_eq_false_iff_eq] at c168')
    refine wp_seq_k fun K169 hK169 => ?_
    refine wp_region_lit ?_
    refine q_is rfl rfl (does_build (parts' := [(0, (Iv 0)), (1, (Iv 1)), (2, (Bo true)), (3, (Iv 0))]) (cells := #[(Iv 0), (Iv 1), (Bo true), (Iv 0)]) (evp rfl) (by kernel_rfl)) (by dsimp only [List.set]; try rfl) ?_
    refine seqn rfl rfl (does_store (n := 4) (cs := [(Iv 0), (Iv 0), (Bo false), (Iv 0)]) (u := (.agg #[(Iv 0), (Iv 1), (Bo true), (Iv 0)])) (ev rfl) (ev rfl) Try.sizeOf65 rfl hB4 (Nat.le_of_ble_eq_true rfl) rfl) ?_; rintro _ w172 ⟨rfl, W170, hB171⟩
    change Blk _ _ [(Iv 0), (Iv 1), (Bo true), (Iv 0)] at hB171
    have X173 := Below.wr X8 W170 g7
    refine q_is rfl rfl (does_assign (u := (Bo true)) (ev rfl)) (by dsimp only [List.set]; try rfl) ?_
    refine wpList_nil (hK169 _ _ ?_)
    refine wp_ret ?_
    dsimp only [Exit.then, Exit.inBlock]
    refine ret_val (v := (.tuple #[(.agg #[(Iv 0), (Iv 1), (Bo true), (Iv 0)]), (Bo true)])) (res_CT rfl (slot rfl) (run_loadAgg (cs := [(Iv 0), (Iv 1), (Bo true), (Iv 0)]) Try.isAgg65 Try.sizeOf65 (Blk.cells hB171) rfl) (slot rfl)) X173 ?_
    have x174 : (rlOk kind) = true := by first | (simp [ruleP, rlNum, rlCh, rlAx, rlSg, rlOk, inI, icmp, *]; done) | (simp_all [ruleP, rlNum, rlCh, rlAx, rlSg, rlOk, inI, icmp]; done) | (simp only [ruleP, rlNum, rlCh, rlAx, rlSg, rlOk, inI, icmp]; simp_all; omega) | (simp only [ruleP, rlNum, rlCh, rlAx, rlSg, rlOk, inI, icmp]; simp; omega)
    have x175 : (ruleP kind).num = 0 := by first | (simp [ruleP, rlNum, rlCh, rlAx, rlSg, rlOk, inI, icmp, *]; done) | (simp_all [ruleP, rlNum, rlCh, rlAx, rlSg, rlOk, inI, icmp]; done) | (simp only [ruleP, rlNum, rlCh, rlAx, rlSg, rlOk, inI, icmp]; simp_all; omega) | (simp only [ruleP, rlNum, rlCh, rlAx, rlSg, rlOk, inI, icmp]; simp; omega)
    have x176 : (ruleP kind).ch = 1 := by first | (simp [ruleP, rlNum, rlCh, rlAx, rlSg, rlOk, inI, icmp, *]; done) | (simp_all [ruleP, rlNum, rlCh, rlAx, rlSg, rlOk, inI, icmp]; done) | (simp only [ruleP, rlNum, rlCh, rlAx, rlSg, rlOk, inI, icmp]; simp_all; omega) | (simp only [ruleP, rlNum, rlCh, rlAx, rlSg, rlOk, inI, icmp]; simp; omega)
    have x177 : (ruleP kind).ax = true := by first | (simp [ruleP, rlNum, rlCh, rlAx, rlSg, rlOk, inI, icmp, *]; done) | (simp_all [ruleP, rlNum, rlCh, rlAx, rlSg, rlOk, inI, icmp]; done) | (simp only [ruleP, rlNum, rlCh, rlAx, rlSg, rlOk, inI, icmp]; simp_all; omega) | (simp only [ruleP, rlNum, rlCh, rlAx, rlSg, rlOk, inI, icmp]; simp; omega)
    have x178 : (ruleP kind).sg = 0 := by first | (simp [ruleP, rlNum, rlCh, rlAx, rlSg, rlOk, inI, icmp, *]; done) | (simp_all [ruleP, rlNum, rlCh, rlAx, rlSg, rlOk, inI, icmp]; done) | (simp only [ruleP, rlNum, rlCh, rlAx, rlSg, rlOk, inI, icmp]; simp_all; omega) | (simp only [ruleP, rlNum, rlCh, rlAx, rlSg, rlOk, inI, icmp]; simp; omega)
    exact ⟨[(Iv 0), (Iv 1), (Bo true), (Iv 0)], (by first | rfl | rw [x174]), (by first | with_reducible rfl | (show _ = _; simp only [x175, x176, x177, x178]) | rfl)⟩
  have c168' := c168
  (try simp only [icmp, Bool.and_eq_true, Bool.or_eq_true, Bool.and_eq_false_iff, Bool.or_eq_false_iff, Bool.not_eq_true', Bool.not_eq_false', decide_eq_true_eq, decide_eq_false_iff_not, beq_iff_eq, bne_iff_ne, beq_eq_false_iff_ne, bne_eq_false_iff_eq] at c168')
  refine wp_seq_k fun K179 hK179 => ?_
  refine wp_region_lit ?_
  refine q_is rfl rfl (does_icmp (p := kind) (q := 14) (.inl rfl) (ev rfl) (ev rfl)) (by dsimp only [List.set]; try rfl) ?_
  refine q_is rfl rfl (does_assign (u := (Bo (icmp .eql kind 14))) (ev rfl)) (by dsimp only [List.set]; try rfl) ?_
  refine wpList_nil (hK179 _ _ ?_)
  refine wp_cond_split (t := icmp .eql kind 14) (ev rfl) (fun c180 => ?_) (fun c180 => ?_)
  · have c180' := c180
    (try simp only [icmp, Bool.and_eq_true, Bool.or_eq_true, Bool.and_eq_false_iff, Bool.or_eq_false_iff, Bool.not_eq_true', Bool.not_eq_false', decide_eq_true_eq, decide_eq_false_iff_not, beq_iff_eq, bne_iff_ne, beq_eq_false_iff_ne, bne_eq_false_iff_eq] at c180')
    refine wp_seq_k fun K181 hK181 => ?_
    refine wp_region_lit ?_
    refine q_is rfl rfl (does_build (parts' := [(0, (Iv 1)), (1, (Iv 1)), (2, (Bo true)), (3, (Iv 2))]) (cells := #[(Iv 1), (Iv 1), (Bo true), (Iv 2)]) (evp rfl) (by kernel_rfl)) (by dsimp only [List.set]; try rfl) ?_
    refine seqn rfl rfl (does_store (n := 4) (cs := [(Iv 0), (Iv 0), (Bo false), (Iv 0)]) (u := (.agg #[(Iv 1), (Iv 1), (Bo true), (Iv 2)])) (ev rfl) (ev rfl) Try.sizeOf65 rfl hB4 (Nat.le_of_ble_eq_true rfl) rfl) ?_; rintro _ w184 ⟨rfl, W182, hB183⟩
    change Blk _ _ [(Iv 1), (Iv 1), (Bo true), (Iv 2)] at hB183
    have X185 := Below.wr X8 W182 g7
    refine q_is rfl rfl (does_assign (u := (Bo true)) (ev rfl)) (by dsimp only [List.set]; try rfl) ?_
    refine wpList_nil (hK181 _ _ ?_)
    refine wp_ret ?_
    dsimp only [Exit.then, Exit.inBlock]
    refine ret_val (v := (.tuple #[(.agg #[(Iv 1), (Iv 1), (Bo true), (Iv 2)]), (Bo true)])) (res_CT rfl (slot rfl) (run_loadAgg (cs := [(Iv 1), (Iv 1), (Bo true), (Iv 2)]) Try.isAgg65 Try.sizeOf65 (Blk.cells hB183) rfl) (slot rfl)) X185 ?_
    have x186 : (rlOk kind) = true := by first | (simp [ruleP, rlNum, rlCh, rlAx, rlSg, rlOk, inI, icmp, *]; done) | (simp_all [ruleP, rlNum, rlCh, rlAx, rlSg, rlOk, inI, icmp]; done) | (simp only [ruleP, rlNum, rlCh, rlAx, rlSg, rlOk, inI, icmp]; simp_all; omega) | (simp only [ruleP, rlNum, rlCh, rlAx, rlSg, rlOk, inI, icmp]; simp; omega)
    have x187 : (ruleP kind).num = 1 := by first | (simp [ruleP, rlNum, rlCh, rlAx, rlSg, rlOk, inI, icmp, *]; done) | (simp_all [ruleP, rlNum, rlCh, rlAx, rlSg, rlOk, inI, icmp]; done) | (simp only [ruleP, rlNum, rlCh, rlAx, rlSg, rlOk, inI, icmp]; simp_all; omega) | (simp only [ruleP, rlNum, rlCh, rlAx, rlSg, rlOk, inI, icmp]; simp; omega)
    have x188 : (ruleP kind).ch = 1 := by first | (simp [ruleP, rlNum, rlCh, rlAx, rlSg, rlOk, inI, icmp, *]; done) | (simp_all [ruleP, rlNum, rlCh, rlAx, rlSg, rlOk, inI, icmp]; done) | (simp only [ruleP, rlNum, rlCh, rlAx, rlSg, rlOk, inI, icmp]; simp_all; omega) | (simp only [ruleP, rlNum, rlCh, rlAx, rlSg, rlOk, inI, icmp]; simp; omega)
    have x189 : (ruleP kind).ax = true := by first | (simp [ruleP, rlNum, rlCh, rlAx, rlSg, rlOk, inI, icmp, *]; done) | (simp_all [ruleP, rlNum, rlCh, rlAx, rlSg, rlOk, inI, icmp]; done) | (simp only [ruleP, rlNum, rlCh, rlAx, rlSg, rlOk, inI, icmp]; simp_all; omega) | (simp only [ruleP, rlNum, rlCh, rlAx, rlSg, rlOk, inI, icmp]; simp; omega)
    have x190 : (ruleP kind).sg = 2 := by first | (simp [ruleP, rlNum, rlCh, rlAx, rlSg, rlOk, inI, icmp, *]; done) | (simp_all [ruleP, rlNum, rlCh, rlAx, rlSg, rlOk, inI, icmp]; done) | (simp only [ruleP, rlNum, rlCh, rlAx, rlSg, rlOk, inI, icmp]; simp_all; omega) | (simp only [ruleP, rlNum, rlCh, rlAx, rlSg, rlOk, inI, icmp]; simp; omega)
    exact ⟨[(Iv 1), (Iv 1), (Bo true), (Iv 2)], (by first | rfl | rw [x186]), (by first | with_reducible rfl | (show _ = _; simp only [x187, x188, x189, x190]) | rfl)⟩
  have c180' := c180
  (try simp only [icmp, Bool.and_eq_true, Bool.or_eq_true, Bool.and_eq_false_iff, Bool.or_eq_false_iff, Bool.not_eq_true', Bool.not_eq_false', decide_eq_true_eq, decide_eq_false_iff_not, beq_iff_eq, bne_iff_ne, beq_eq_false_iff_ne, bne_eq_false_iff_eq] at c180')
  refine wp_seq_k fun K191 hK191 => ?_
  refine wp_region_lit ?_
  refine q_is rfl rfl (does_icmp (p := kind) (q := 15) (.inl rfl) (ev rfl) (ev rfl)) (by dsimp only [List.set]; try rfl) ?_
  refine q_is rfl rfl (does_assign (u := (Bo (icmp .eql kind 15))) (ev rfl)) (by dsimp only [List.set]; try rfl) ?_
  refine wpList_nil (hK191 _ _ ?_)
  refine wp_cond_split (t := icmp .eql kind 15) (ev rfl) (fun c192 => ?_) (fun c192 => ?_)
  · have c192' := c192
    (try simp only [icmp, Bool.and_eq_true, Bool.or_eq_true, Bool.and_eq_false_iff, Bool.or_eq_false_iff, Bool.not_eq_true', Bool.not_eq_false', decide_eq_true_eq, decide_eq_false_iff_not, beq_iff_eq, bne_iff_ne, beq_eq_false_iff_ne, bne_eq_false_iff_eq] at c192')
    refine wp_seq_k fun K193 hK193 => ?_
    refine wp_region_lit ?_
    refine q_is rfl rfl (does_build (parts' := [(0, (Iv 1)), (1, (Iv 1)), (2, (Bo false)), (3, (Iv 0))]) (cells := #[(Iv 1), (Iv 1), (Bo false), (Iv 0)]) (evp rfl) (by kernel_rfl)) (by dsimp only [List.set]; try rfl) ?_
    refine seqn rfl rfl (does_store (n := 4) (cs := [(Iv 0), (Iv 0), (Bo false), (Iv 0)]) (u := (.agg #[(Iv 1), (Iv 1), (Bo false), (Iv 0)])) (ev rfl) (ev rfl) Try.sizeOf65 rfl hB4 (Nat.le_of_ble_eq_true rfl) rfl) ?_; rintro _ w196 ⟨rfl, W194, hB195⟩
    change Blk _ _ [(Iv 1), (Iv 1), (Bo false), (Iv 0)] at hB195
    have X197 := Below.wr X8 W194 g7
    refine q_is rfl rfl (does_assign (u := (Bo true)) (ev rfl)) (by dsimp only [List.set]; try rfl) ?_
    refine wpList_nil (hK193 _ _ ?_)
    refine wp_ret ?_
    dsimp only [Exit.then, Exit.inBlock]
    refine ret_val (v := (.tuple #[(.agg #[(Iv 1), (Iv 1), (Bo false), (Iv 0)]), (Bo true)])) (res_CT rfl (slot rfl) (run_loadAgg (cs := [(Iv 1), (Iv 1), (Bo false), (Iv 0)]) Try.isAgg65 Try.sizeOf65 (Blk.cells hB195) rfl) (slot rfl)) X197 ?_
    have x198 : (rlOk kind) = true := by first | (simp [ruleP, rlNum, rlCh, rlAx, rlSg, rlOk, inI, icmp, *]; done) | (simp_all [ruleP, rlNum, rlCh, rlAx, rlSg, rlOk, inI, icmp]; done) | (simp only [ruleP, rlNum, rlCh, rlAx, rlSg, rlOk, inI, icmp]; simp_all; omega) | (simp only [ruleP, rlNum, rlCh, rlAx, rlSg, rlOk, inI, icmp]; simp; omega)
    have x199 : (ruleP kind).num = 1 := by first | (simp [ruleP, rlNum, rlCh, rlAx, rlSg, rlOk, inI, icmp, *]; done) | (simp_all [ruleP, rlNum, rlCh, rlAx, rlSg, rlOk, inI, icmp]; done) | (simp only [ruleP, rlNum, rlCh, rlAx, rlSg, rlOk, inI, icmp]; simp_all; omega) | (simp only [ruleP, rlNum, rlCh, rlAx, rlSg, rlOk, inI, icmp]; simp; omega)
    have x200 : (ruleP kind).ch = 1 := by first | (simp [ruleP, rlNum, rlCh, rlAx, rlSg, rlOk, inI, icmp, *]; done) | (simp_all [ruleP, rlNum, rlCh, rlAx, rlSg, rlOk, inI, icmp]; done) | (simp only [ruleP, rlNum, rlCh, rlAx, rlSg, rlOk, inI, icmp]; simp_all; omega) | (simp only [ruleP, rlNum, rlCh, rlAx, rlSg, rlOk, inI, icmp]; simp; omega)
    have x201 : (ruleP kind).ax = false := by first | (simp [ruleP, rlNum, rlCh, rlAx, rlSg, rlOk, inI, icmp, *]; done) | (simp_all [ruleP, rlNum, rlCh, rlAx, rlSg, rlOk, inI, icmp]; done) | (simp only [ruleP, rlNum, rlCh, rlAx, rlSg, rlOk, inI, icmp]; simp_all; omega) | (simp only [ruleP, rlNum, rlCh, rlAx, rlSg, rlOk, inI, icmp]; simp; omega)
    have x202 : (ruleP kind).sg = 0 := by first | (simp [ruleP, rlNum, rlCh, rlAx, rlSg, rlOk, inI, icmp, *]; done) | (simp_all [ruleP, rlNum, rlCh, rlAx, rlSg, rlOk, inI, icmp]; done) | (simp only [ruleP, rlNum, rlCh, rlAx, rlSg, rlOk, inI, icmp]; simp_all; omega) | (simp only [ruleP, rlNum, rlCh, rlAx, rlSg, rlOk, inI, icmp]; simp; omega)
    exact ⟨[(Iv 1), (Iv 1), (Bo false), (Iv 0)], (by first | rfl | rw [x198]), (by first | with_reducible rfl | (show _ = _; simp only [x199, x200, x201, x202]) | rfl)⟩
  have c192' := c192
  (try simp only [icmp, Bool.and_eq_true, Bool.or_eq_true, Bool.and_eq_false_iff, Bool.or_eq_false_iff, Bool.not_eq_true', Bool.not_eq_false', decide_eq_true_eq, decide_eq_false_iff_not, beq_iff_eq, bne_iff_ne, beq_eq_false_iff_ne, bne_eq_false_iff_eq] at c192')
  refine wp_seq_k fun K203 hK203 => ?_
  refine wp_region_lit ?_
  refine q_is rfl rfl (does_icmp (p := kind) (q := 16) (.inl rfl) (ev rfl) (ev rfl)) (by dsimp only [List.set]; try rfl) ?_
  refine q_is rfl rfl (does_assign (u := (Bo (icmp .eql kind 16))) (ev rfl)) (by dsimp only [List.set]; try rfl) ?_
  refine wpList_nil (hK203 _ _ ?_)
  refine wp_cond_split (t := icmp .eql kind 16) (ev rfl) (fun c204 => ?_) (fun c204 => ?_)
  · have c204' := c204
    (try simp only [icmp, Bool.and_eq_true, Bool.or_eq_true, Bool.and_eq_false_iff, Bool.or_eq_false_iff, Bool.not_eq_true', Bool.not_eq_false', decide_eq_true_eq, decide_eq_false_iff_not, beq_iff_eq, bne_iff_ne, beq_eq_false_iff_ne, bne_eq_false_iff_eq] at c204')
    refine wp_seq_k fun K205 hK205 => ?_
    refine wp_region_lit ?_
    refine q_is rfl rfl (does_build (parts' := [(0, (Iv 1)), (1, (Iv 1)), (2, (Bo false)), (3, (Iv 1))]) (cells := #[(Iv 1), (Iv 1), (Bo false), (Iv 1)]) (evp rfl) (by kernel_rfl)) (by dsimp only [List.set]; try rfl) ?_
    refine seqn rfl rfl (does_store (n := 4) (cs := [(Iv 0), (Iv 0), (Bo false), (Iv 0)]) (u := (.agg #[(Iv 1), (Iv 1), (Bo false), (Iv 1)])) (ev rfl) (ev rfl) Try.sizeOf65 rfl hB4 (Nat.le_of_ble_eq_true rfl) rfl) ?_; rintro _ w208 ⟨rfl, W206, hB207⟩
    change Blk _ _ [(Iv 1), (Iv 1), (Bo false), (Iv 1)] at hB207
    have X209 := Below.wr X8 W206 g7
    refine q_is rfl rfl (does_assign (u := (Bo true)) (ev rfl)) (by dsimp only [List.set]; try rfl) ?_
    refine wpList_nil (hK205 _ _ ?_)
    refine wp_ret ?_
    dsimp only [Exit.then, Exit.inBlock]
    refine ret_val (v := (.tuple #[(.agg #[(Iv 1), (Iv 1), (Bo false), (Iv 1)]), (Bo true)])) (res_CT rfl (slot rfl) (run_loadAgg (cs := [(Iv 1), (Iv 1), (Bo false), (Iv 1)]) Try.isAgg65 Try.sizeOf65 (Blk.cells hB207) rfl) (slot rfl)) X209 ?_
    have x210 : (rlOk kind) = true := by first | (simp [ruleP, rlNum, rlCh, rlAx, rlSg, rlOk, inI, icmp, *]; done) | (simp_all [ruleP, rlNum, rlCh, rlAx, rlSg, rlOk, inI, icmp]; done) | (simp only [ruleP, rlNum, rlCh, rlAx, rlSg, rlOk, inI, icmp]; simp_all; omega) | (simp only [ruleP, rlNum, rlCh, rlAx, rlSg, rlOk, inI, icmp]; simp; omega)
    have x211 : (ruleP kind).num = 1 := by first | (simp [ruleP, rlNum, rlCh, rlAx, rlSg, rlOk, inI, icmp, *]; done) | (simp_all [ruleP, rlNum, rlCh, rlAx, rlSg, rlOk, inI, icmp]; done) | (simp only [ruleP, rlNum, rlCh, rlAx, rlSg, rlOk, inI, icmp]; simp_all; omega) | (simp only [ruleP, rlNum, rlCh, rlAx, rlSg, rlOk, inI, icmp]; simp; omega)
    have x212 : (ruleP kind).ch = 1 := by first | (simp [ruleP, rlNum, rlCh, rlAx, rlSg, rlOk, inI, icmp, *]; done) | (simp_all [ruleP, rlNum, rlCh, rlAx, rlSg, rlOk, inI, icmp]; done) | (simp only [ruleP, rlNum, rlCh, rlAx, rlSg, rlOk, inI, icmp]; simp_all; omega) | (simp only [ruleP, rlNum, rlCh, rlAx, rlSg, rlOk, inI, icmp]; simp; omega)
    have x213 : (ruleP kind).ax = false := by first | (simp [ruleP, rlNum, rlCh, rlAx, rlSg, rlOk, inI, icmp, *]; done) | (simp_all [ruleP, rlNum, rlCh, rlAx, rlSg, rlOk, inI, icmp]; done) | (simp only [ruleP, rlNum, rlCh, rlAx, rlSg, rlOk, inI, icmp]; simp_all; omega) | (simp only [ruleP, rlNum, rlCh, rlAx, rlSg, rlOk, inI, icmp]; simp; omega)
    have x214 : (ruleP kind).sg = 1 := by first | (simp [ruleP, rlNum, rlCh, rlAx, rlSg, rlOk, inI, icmp, *]; done) | (simp_all [ruleP, rlNum, rlCh, rlAx, rlSg, rlOk, inI, icmp]; done) | (simp only [ruleP, rlNum, rlCh, rlAx, rlSg, rlOk, inI, icmp]; simp_all; omega) | (simp only [ruleP, rlNum, rlCh, rlAx, rlSg, rlOk, inI, icmp]; simp; omega)
    exact ⟨[(Iv 1), (Iv 1), (Bo false), (Iv 1)], (by first | rfl | rw [x210]), (by first | with_reducible rfl | (show _ = _; simp only [x211, x212, x213, x214]) | rfl)⟩
  have c204' := c204
  (try simp only [icmp, Bool.and_eq_true, Bool.or_eq_true, Bool.and_eq_false_iff, Bool.or_eq_false_iff, Bool.not_eq_true', Bool.not_eq_false', decide_eq_true_eq, decide_eq_false_iff_not, beq_iff_eq, bne_iff_ne, beq_eq_false_iff_ne, bne_eq_false_iff_eq] at c204')
  refine wp_skip (hK9 _ _ ?_)
  refine wp_seq_k fun K215 hK215 => ?_
  refine wp_region_lit ?_
  refine q_is rfl rfl (does_build (parts' := []) (cells := #[(Iv 0), (Iv 0), (Bo false), (Iv 0)]) (evp rfl) (by kernel_rfl)) (by dsimp only [List.set]; try rfl) ?_
  refine seqn rfl rfl (does_store (n := 4) (cs := [(Iv 0), (Iv 0), (Bo false), (Iv 0)]) (u := (.agg #[(Iv 0), (Iv 0), (Bo false), (Iv 0)])) (ev rfl) (ev rfl) Try.sizeOf65 rfl hB4 (Nat.le_of_ble_eq_true rfl) rfl) ?_; rintro _ w218 ⟨rfl, W216, hB217⟩
  change Blk _ _ [(Iv 0), (Iv 0), (Bo false), (Iv 0)] at hB217
  have X219 := Below.wr X8 W216 g7
  refine q_is rfl rfl (does_assign (u := (Bo false)) (ev rfl)) (by dsimp only [List.set]; try rfl) ?_
  refine wpList_nil (hK215 _ _ ?_)
  refine wp_ret ?_
  refine ret_val (v := (.tuple #[(.agg #[(Iv 0), (Iv 0), (Bo false), (Iv 0)]), (Bo false)])) (res_CT rfl (slot rfl) (run_loadAgg (cs := [(Iv 0), (Iv 0), (Bo false), (Iv 0)]) Try.isAgg65 Try.sizeOf65 (Blk.cells hB217) rfl) (slot rfl)) X219 ?_
  have x220 : (rlOk kind) = false := by first | (simp [ruleP, rlNum, rlCh, rlAx, rlSg, rlOk, inI, icmp, *]; done) | (simp_all [ruleP, rlNum, rlCh, rlAx, rlSg, rlOk, inI, icmp]; done) | (simp only [ruleP, rlNum, rlCh, rlAx, rlSg, rlOk, inI, icmp]; simp_all; omega) | (simp only [ruleP, rlNum, rlCh, rlAx, rlSg, rlOk, inI, icmp]; simp; omega)
  have x221 : (ruleP kind).num = 0 := by first | (simp [ruleP, rlNum, rlCh, rlAx, rlSg, rlOk, inI, icmp, *]; done) | (simp_all [ruleP, rlNum, rlCh, rlAx, rlSg, rlOk, inI, icmp]; done) | (simp only [ruleP, rlNum, rlCh, rlAx, rlSg, rlOk, inI, icmp]; simp_all; omega) | (simp only [ruleP, rlNum, rlCh, rlAx, rlSg, rlOk, inI, icmp]; simp; omega)
  have x222 : (ruleP kind).ch = 0 := by first | (simp [ruleP, rlNum, rlCh, rlAx, rlSg, rlOk, inI, icmp, *]; done) | (simp_all [ruleP, rlNum, rlCh, rlAx, rlSg, rlOk, inI, icmp]; done) | (simp only [ruleP, rlNum, rlCh, rlAx, rlSg, rlOk, inI, icmp]; simp_all; omega) | (simp only [ruleP, rlNum, rlCh, rlAx, rlSg, rlOk, inI, icmp]; simp; omega)
  have x223 : (ruleP kind).ax = false := by first | (simp [ruleP, rlNum, rlCh, rlAx, rlSg, rlOk, inI, icmp, *]; done) | (simp_all [ruleP, rlNum, rlCh, rlAx, rlSg, rlOk, inI, icmp]; done) | (simp only [ruleP, rlNum, rlCh, rlAx, rlSg, rlOk, inI, icmp]; simp_all; omega) | (simp only [ruleP, rlNum, rlCh, rlAx, rlSg, rlOk, inI, icmp]; simp; omega)
  have x224 : (ruleP kind).sg = 0 := by first | (simp [ruleP, rlNum, rlCh, rlAx, rlSg, rlOk, inI, icmp, *]; done) | (simp_all [ruleP, rlNum, rlCh, rlAx, rlSg, rlOk, inI, icmp]; done) | (simp only [ruleP, rlNum, rlCh, rlAx, rlSg, rlOk, inI, icmp]; simp_all; omega) | (simp only [ruleP, rlNum, rlCh, rlAx, rlSg, rlOk, inI, icmp]; simp; omega)
  exact ⟨[(Iv 0), (Iv 0), (Bo false), (Iv 0)], (by first | rfl | rw [x220]), (by first | with_reducible rfl | (show _ = _; simp only [x221, x222, x223, x224]) | rfl)⟩

/- slices.IndexFunc[[]float32,float32] -/
theorem c_slices_IndexFunc_float32_float32 (xs : Value) (L_xs : List Nat) (f : Value) (pr_f : Nat → Bool) (w : World) (hv_xs : Sl RF 1 w xs L_xs) (hv_f : TellsF Try.prog f w pr_f) : Gives Try.prog 46 #[xs, f] w (fun v w' => v = (Iv (findI pr_f L_xs))) := by
  have hlen_xs := Sl.len hv_xs; obtain ⟨p_xs, q_xs, rfl⟩ := Sl.shape hv_xs
  obtain ⟨f_f, s_f, c_f, rfl, hcal_f, hg_f⟩ := hv_f
  refine enter [(.slice p_xs L_xs.length q_xs), (.func (.func f_f) s_f c_f), Ud, Ud, Ud, Ud, Ud, Ud, Ud, Ud, Ud, Ud, Ud, Ud, Ud, Ud, Ud, Ud, Ud] Try.func46 rfl Try.ntmps46 rfl ?_
  refine wp_seq_k fun K1 hK1 => ?_
  refine wp_region_lit ?_
  refine q_is (l' := [(.slice p_xs L_xs.length q_xs), (.func (.func f_f) s_f c_f), Ud, Ud, (Iv 0), Ud, Ud, Ud, Ud, Ud, Ud, Ud, Ud, Ud, Ud, Ud, Ud, Ud, Ud]) rfl rfl (does_assign (u := (Iv 0)) (ev rfl)) rfl ?_
  refine wpList_nil (hK1 _ _ ?_)
  refine wp_seq_k fun K2 hK2 => ?_
  refine wp_seq_k fun K3 hK3 => ?_
  refine wp_region_lit ?_
  refine q_is (l' := [(.slice p_xs L_xs.length q_xs), (.func (.func f_f) s_f c_f), Ud, Ud, (Iv 0), Ud, (.slice p_xs L_xs.length q_xs), Ud, Ud, Ud, Ud, Ud, Ud, Ud, Ud, Ud, Ud, Ud, Ud]) rfl rfl (does_move (u := (.slice p_xs L_xs.length q_xs)) (ev rfl)) rfl ?_
  refine q_is (l' := [(.slice p_xs L_xs.length q_xs), (.func (.func f_f) s_f c_f), Ud, Ud, (Iv 0), Ud, (.slice p_xs L_xs.length q_xs), (Iv (L_xs.length : Int)), Ud, Ud, Ud, Ud, Ud, Ud, Ud, Ud, Ud, Ud, Ud]) rfl rfl (does_len_slice Try.underlying32 (ev rfl)) rfl ?_
  refine q_is (l' := [(.slice p_xs L_xs.length q_xs), (.func (.func f_f) s_f c_f), Ud, Ud, (Iv 0), Ud, (.slice p_xs L_xs.length q_xs), (Iv (L_xs.length : Int)), (Iv 0), Ud, Ud, Ud, Ud, Ud, Ud, Ud, Ud, Ud, Ud]) rfl rfl (does_move (u := (Iv 0)) (ev rfl)) rfl ?_
  refine wpList_nil (hK3 _ _ ?_)
  refine wp_block ?_
  refine loop_ghost (σ := Nat) (fun k a w' => ∃ u4 : Nat → Value, a = fr [(.slice p_xs L_xs.length q_xs), (.func (.func f_f) s_f c_f), Ud, Ud, (u4 4), (u4 5), (.slice p_xs L_xs.length q_xs), (Iv (L_xs.length : Int)), (Iv (k : Int)), (u4 9), (u4 10), (u4 11), (u4 12), (u4 13), (u4 14), (u4 15), (u4 16), (u4 17), (u4 18)] ∧ Ext w w' ∧ (k ≤ L_xs.length ∧ NoneTo pr_f L_xs k)) (fun k => L_xs.length - k) 0 ?_ ?_
  · refine ⟨fun t => (([(.slice p_xs L_xs.length q_xs), (.func (.func f_f) s_f c_f), Ud, Ud, (Iv 0), Ud, (.slice p_xs L_xs.length q_xs), (Iv (L_xs.length : Int)), (Iv 0), Ud, Ud, Ud, Ud, Ud, Ud, Ud, Ud, Ud, Ud] : List Value)[t]?).getD undef, rfl, Ext.refl _, ?_⟩
    exact ⟨Nat.zero_le _, NoneTo.zero⟩
  · rintro k a w5 ⟨u4, rfl, E6, ⟨hk, hno⟩⟩
    have X8 := Ext.gr (Ext.refl w) E6
    refine wp_seq_k fun K9 hK9 => ?_
    refine wp_region_lit ?_
    refine q_is (l' := [(.slice p_xs L_xs.length q_xs), (.func (.func f_f) s_f c_f), Ud, Ud, (u4 4), (u4 5), (.slice p_xs L_xs.length q_xs), (Iv (L_xs.length : Int)), (Iv (k : Int)), (Bo (icmp .lss (k : Int) (L_xs.length : Int))), (u4 10), (u4 11), (u4 12), (u4 13), (u4 14), (u4 15), (u4 16), (u4 17), (u4 18)]) rfl rfl (does_icmp (p := (k : Int)) (q := (L_xs.length : Int)) (.inr (.inr (.inl rfl))) (ev rfl) (ev rfl)) rfl ?_
    refine wpList_nil (hK9 _ _ ?_)
    refine wp_seq_k fun K10 hK10 => ?_
    refine wp_cond_split (t := icmp .lss (k : Int) (L_xs.length : Int)) (ev rfl) (fun c11 => ?_) (fun c11 => ?_)
    · have c11' := c11
      (try simp only [icmp, Bool.and_eq_true, Bool.or_eq_true, Bool.and_eq_false_iff, Bool.or_eq_false_iff, Bool.not_eq_true', Bool.not_eq_false', decide_eq_true_eq, decide_eq_false_iff_not, beq_iff_eq, bne_iff_ne, beq_eq_false_iff_ne, bne_eq_false_iff_eq] at c11')
      refine wp_skip (hK10 _ _ ?_)
      refine wp_seq_k fun K12 hK12 => ?_
      refine wp_block ?_
      refine wp_seq_k fun K13 hK13 => ?_
      refine wp_region_lit ?_
      refine q_is (l' := [(.slice p_xs L_xs.length q_xs), (.func (.func f_f) s_f c_f), Ud, Ud, (u4 4), (u4 5), (.slice p_xs L_xs.length q_xs), (Iv (L_xs.length : Int)), (Iv (k : Int)), (Bo (icmp .lss (k : Int) (L_xs.length : Int))), (Iv (k : Int)), (u4 11), (u4 12), (u4 13), (u4 14), (u4 15), (u4 16), (u4 17), (u4 18)]) rfl rfl (does_move (u := (Iv (k : Int))) (ev rfl)) rfl ?_
      refine q_is (l' := [(.slice p_xs L_xs.length q_xs), (.func (.func f_f) s_f c_f), Ud, Ud, (u4 4), (Iv (k : Int)), (.slice p_xs L_xs.length q_xs), (Iv (L_xs.length : Int)), (Iv (k : Int)), (Bo (icmp .lss (k : Int) (L_xs.length : Int))), (Iv (k : Int)), (u4 11), (u4 12), (u4 13), (u4 14), (u4 15), (u4 16), (u4 17), (u4 18)]) rfl rfl (does_assign (u := (Iv (k : Int))) (ev rfl)) rfl ?_
      refine wpList_nil (hK13 _ _ ?_)
      refine wp_seq_k fun K14 hK14 => ?_
      refine wp_region_lit ?_
      refine q_is (l' := [(.slice p_xs L_xs.length q_xs), (.func (.func f_f) s_f c_f), Ud, Ud, (u4 4), (Iv (k : Int)), (.slice p_xs L_xs.length q_xs), (Iv (L_xs.length : Int)), (Iv (k : Int)), (Bo (icmp .lss (k : Int) (L_xs.length : Int))), (Iv (k : Int)), (.func (.func f_f) s_f c_f), (u4 12), (u4 13), (u4 14), (u4 15), (u4 16), (u4 17), (u4 18)]) rfl rfl (does_move (u := (.func (.func f_f) s_f c_f)) (ev rfl)) rfl ?_
      refine q_is (l' := [(.slice p_xs L_xs.length q_xs), (.func (.func f_f) s_f c_f), Ud, Ud, (u4 4), (Iv (k : Int)), (.slice p_xs L_xs.length q_xs), (Iv (L_xs.length : Int)), (Iv (k : Int)), (Bo (icmp .lss (k : Int) (L_xs.length : Int))), (Iv (k : Int)), (.func (.func f_f) s_f c_f), (.slice p_xs L_xs.length q_xs), (u4 13), (u4 14), (u4 15), (u4 16), (u4 17), (u4 18)]) rfl rfl (does_move (u := (.slice p_xs L_xs.length q_xs)) (ev rfl)) rfl ?_
      refine q_is (l' := [(.slice p_xs L_xs.length q_xs), (.func (.func f_f) s_f c_f), Ud, Ud, (u4 4), (Iv (k : Int)), (.slice p_xs L_xs.length q_xs), (Iv (L_xs.length : Int)), (Iv (k : Int)), (Bo (icmp .lss (k : Int) (L_xs.length : Int))), (Iv (k : Int)), (.func (.func f_f) s_f c_f), (.slice p_xs L_xs.length q_xs), (Iv (k : Int)), (u4 14), (u4 15), (u4 16), (u4 17), (u4 18)]) rfl rfl (does_move (u := (Iv (k : Int))) (ev rfl)) rfl ?_
      obtain ⟨el1, hel1⟩ : ∃ e, L_xs[k]? = some e := ⟨_, List.getElem?_eq_getElem (by omega)⟩
      refine seqd rfl rfl (does_indexSl (R := RF) (i := (k : Int)) (xs := L_xs) (e := el1) Try.underlying32 Try.sizeOf59 (ev rfl) (ev rfl) (Sl.ext hv_xs RF.mono X8) (by omega) hel1) ?_; rintro _ w5 ⟨b15, o16, _, rfl, hc18, ⟨r19, rfl, h20⟩, rfl⟩
      show wpList _ _ _ _ (fr [(.slice p_xs L_xs.length q_xs), (.func (.func f_f) s_f c_f), Ud, Ud, (u4 4), (Iv (k : Int)), (.slice p_xs L_xs.length q_xs), (Iv (L_xs.length : Int)), (Iv (k : Int)), (Bo (icmp .lss (k : Int) (L_xs.length : Int))), (Iv (k : Int)), (.func (.func f_f) s_f c_f), (.slice p_xs L_xs.length q_xs), (Iv (k : Int)), (Pt b15 o16), (u4 15), (u4 16), (u4 17), (u4 18)]) _
      refine q_is (l' := [(.slice p_xs L_xs.length q_xs), (.func (.func f_f) s_f c_f), Ud, Ud, (u4 4), (Iv (k : Int)), (.slice p_xs L_xs.length q_xs), (Iv (L_xs.length : Int)), (Iv (k : Int)), (Bo (icmp .lss (k : Int) (L_xs.length : Int))), (Iv (k : Int)), (.func (.func f_f) s_f c_f), (.slice p_xs L_xs.length q_xs), (Iv (k : Int)), (Pt b15 o16), (Fl r19), (u4 16), (u4 17), (u4 18)]) rfl rfl (does_load (u := (Fl r19)) (ev rfl) Try.isAgg59 (Cells.at hc18 0 rfl)) rfl ?_
      refine seqd rfl rfl (does_callf (args := #[(Fl r19)]) (ev rfl) hcal_f (evs rfl) (hg_f r19 _ X8)) ?_; rintro _ w22 ⟨E21, rfl⟩
      have X23 := Ext.gr X8 E21
      show wpList _ _ _ _ (fr [(.slice p_xs L_xs.length q_xs), (.func (.func f_f) s_f c_f), Ud, Ud, (u4 4), (Iv (k : Int)), (.slice p_xs L_xs.length q_xs), (Iv (L_xs.length : Int)), (Iv (k : Int)), (Bo (icmp .lss (k : Int) (L_xs.length : Int))), (Iv (k : Int)), (.func (.func f_f) s_f c_f), (.slice p_xs L_xs.length q_xs), (Iv (k : Int)), (Pt b15 o16), (Fl r19), (Bo (pr_f (cf .f32 r19))), (u4 17), (u4 18)]) _
      refine wpList_nil (hK14 _ _ ?_)
      refine wp_cond_split (t := pr_f (cf .f32 r19)) (ev rfl) (fun c24 => ?_) (fun c24 => ?_)
      · have c24' := c24
        refine wp_seq_k fun K25 hK25 => ?_
        refine wp_region_lit ?_
        refine q_is (l' := [(.slice p_xs L_xs.length q_xs), (.func (.func f_f) s_f c_f), Ud, Ud, (u4 4), (Iv (k : Int)), (.slice p_xs L_xs.length q_xs), (Iv (L_xs.length : Int)), (Iv (k : Int)), (Bo (icmp .lss (k : Int) (L_xs.length : Int))), (Iv (k : Int)), (.func (.func f_f) s_f c_f), (.slice p_xs L_xs.length q_xs), (Iv (k : Int)), (Pt b15 o16), (Fl r19), (Bo (pr_f (cf .f32 r19))), (Iv (k : Int)), (u4 18)]) rfl rfl (does_move (u := (Iv (k : Int))) (ev rfl)) rfl ?_
        refine q_is (l' := [(.slice p_xs L_xs.length q_xs), (.func (.func f_f) s_f c_f), Ud, Ud, (Iv (k : Int)), (Iv (k : Int)), (.slice p_xs L_xs.length q_xs), (Iv (L_xs.length : Int)), (Iv (k : Int)), (Bo (icmp .lss (k : Int) (L_xs.length : Int))), (Iv (k : Int)), (.func (.func f_f) s_f c_f), (.slice p_xs L_xs.length q_xs), (Iv (k : Int)), (Pt b15 o16), (Fl r19), (Bo (pr_f (cf .f32 r19))), (Iv (k : Int)), (u4 18)]) rfl rfl (does_assign (u := (Iv (k : Int))) (ev rfl)) rfl ?_
        refine wpList_nil (hK25 _ _ ?_)
        refine wp_ret ?_
        dsimp only [Exit.then, Exit.inBlock]
        refine ret_val (v := (Iv (k : Int))) (res_T rfl (slot rfl)) X23 ?_
        try simp only [hel1, h20] at c11 c24
        have x26 : (findI pr_f L_xs : Int) = (k : Int) := by first | exact findI_at hno (by assumption) (by simp_all) | exact findI_none hno (by omega)
        exact (by first | rfl | rw [x26])
      have c24' := c24
      refine wp_skip (hK12 _ _ ?_)
      refine wp_region_lit ?_
      refine q_is (l' := [(.slice p_xs L_xs.length q_xs), (.func (.func f_f) s_f c_f), Ud, Ud, (u4 4), (Iv (k : Int)), (.slice p_xs L_xs.length q_xs), (Iv (L_xs.length : Int)), (Iv (k : Int)), (Bo (icmp .lss (k : Int) (L_xs.length : Int))), (Iv (k : Int)), (.func (.func f_f) s_f c_f), (.slice p_xs L_xs.length q_xs), (Iv (k : Int)), (Pt b15 o16), (Fl r19), (Bo (pr_f (cf .f32 r19))), (u4 17), (Iv ((k : Int) + 1))]) rfl rfl (does_iarith (p := (k : Int)) (q := 1) (r := (k : Int) + 1) (ev rfl) (ev rfl) (.inl ⟨rfl, (in_i64 (by omega) (by omega)).symm⟩)) rfl ?_
      refine q_is (l' := [(.slice p_xs L_xs.length q_xs), (.func (.func f_f) s_f c_f), Ud, Ud, (u4 4), (Iv (k : Int)), (.slice p_xs L_xs.length q_xs), (Iv (L_xs.length : Int)), (Iv ((k : Int) + 1)), (Bo (icmp .lss (k : Int) (L_xs.length : Int))), (Iv (k : Int)), (.func (.func f_f) s_f c_f), (.slice p_xs L_xs.length q_xs), (Iv (k : Int)), (Pt b15 o16), (Fl r19), (Bo (pr_f (cf .f32 r19))), (u4 17), (Iv ((k : Int) + 1))]) rfl rfl (does_move (u := (Iv ((k : Int) + 1))) (ev rfl)) rfl ?_
      refine wpList_nil ?_
      refine ⟨k + 1, ⟨fun t => (([(.slice p_xs L_xs.length q_xs), (.func (.func f_f) s_f c_f), Ud, Ud, (u4 4), (Iv (k : Int)), (.slice p_xs L_xs.length q_xs), (Iv (L_xs.length : Int)), (Iv ((k : Int) + 1)), (Bo (icmp .lss (k : Int) (L_xs.length : Int))), (Iv (k : Int)), (.func (.func f_f) s_f c_f), (.slice p_xs L_xs.length q_xs), (Iv (k : Int)), (Pt b15 o16), (Fl r19), (Bo (pr_f (cf .f32 r19))), (u4 17), (Iv ((k : Int) + 1))] : List Value)[t]?).getD undef, ?_, (Ext.gr E6 E21), ?_⟩, ?_⟩
      · first | rfl | (simp only [Nat.cast_add, Nat.cast_one, Int.natCast_add, Int.natCast_one]; rfl)
      · exact ⟨by omega, NoneTo.step hno (by assumption) (by simp_all)⟩
      · omega
    have c11' := c11
    (try simp only [icmp, Bool.and_eq_true, Bool.or_eq_true, Bool.and_eq_false_iff, Bool.or_eq_false_iff, Bool.not_eq_true', Bool.not_eq_false', decide_eq_true_eq, decide_eq_false_iff_not, beq_iff_eq, bne_iff_ne, beq_eq_false_iff_ne, bne_eq_false_iff_eq] at c11')
    refine wp_exit ?_
    refine hK2 _ _ ?_
    refine wp_seq_k fun K27 hK27 => ?_
    refine wp_region_lit ?_
    refine q_is (l' := [(.slice p_xs L_xs.length q_xs), (.func (.func f_f) s_f c_f), Ud, Ud, (Iv (-1)), (u4 5), (.slice p_xs L_xs.length q_xs), (Iv (L_xs.length : Int)), (Iv (k : Int)), (Bo (icmp .lss (k : Int) (L_xs.length : Int))), (u4 10), (u4 11), (u4 12), (u4 13), (u4 14), (u4 15), (u4 16), (u4 17), (u4 18)]) rfl rfl (does_assign (u := (Iv (-1))) (ev rfl)) rfl ?_
    refine wpList_nil (hK27 _ _ ?_)
    refine wp_ret ?_
    refine ret_val (v := (Iv (-1))) (res_T rfl (slot rfl)) X8 ?_
    have x28 : (findI pr_f L_xs : Int) = (-1) := by first | exact findI_at hno (by assumption) (by simp_all) | exact findI_none hno (by omega)
    exact (by first | rfl | rw [x28])

/- slices.ContainsFunc[[]float32,float32] -/
theorem c_slices_ContainsFunc_float32_float32 (xs : Value) (L_xs : List Nat) (f : Value) (pr_f : Nat → Bool) (w : World) (hv_xs : Sl RF 1 w xs L_xs) (hv_f : TellsF Try.prog f w pr_f) : Gives Try.prog 38 #[xs, f] w (fun v w' => v = (Bo (L_xs.any pr_f))) := by
  have hlen_xs := Sl.len hv_xs; obtain ⟨p_xs, q_xs, rfl⟩ := Sl.shape hv_xs
  obtain ⟨f_f, s_f, c_f, rfl, hcal_f, hg_f⟩ := hv_f
  refine enter [(.slice p_xs L_xs.length q_xs), (.func (.func f_f) s_f c_f), Ud, Ud, Ud, Ud, Ud, Ud, Ud] Try.func38 rfl Try.ntmps38 rfl ?_
  refine wp_seq_k fun K1 hK1 => ?_
  refine wp_region_lit ?_
  refine q_is (l' := [(.slice p_xs L_xs.length q_xs), (.func (.func f_f) s_f c_f), Ud, Ud, (Bo false), Ud, Ud, Ud, Ud]) rfl rfl (does_assign (u := (Bo false)) (ev rfl)) rfl ?_
  refine wpList_nil (hK1 _ _ ?_)
  refine wp_seq_k fun K2 hK2 => ?_
  refine wp_region_lit ?_
  refine q_is (l' := [(.slice p_xs L_xs.length q_xs), (.func (.func f_f) s_f c_f), Ud, Ud, (Bo false), (.slice p_xs L_xs.length q_xs), Ud, Ud, Ud]) rfl rfl (does_move (u := (.slice p_xs L_xs.length q_xs)) (ev rfl)) rfl ?_
  refine q_is (l' := [(.slice p_xs L_xs.length q_xs), (.func (.func f_f) s_f c_f), Ud, Ud, (Bo false), (.slice p_xs L_xs.length q_xs), (.func (.func f_f) s_f c_f), Ud, Ud]) rfl rfl (does_move (u := (.func (.func f_f) s_f c_f)) (ev rfl)) rfl ?_
  refine seqd rfl rfl (does_call (args := #[(.slice p_xs L_xs.length q_xs), (.func (.func f_f) s_f c_f)]) cal46 (evs rfl) (c_slices_IndexFunc_float32_float32 (.slice p_xs L_xs.length q_xs) L_xs (.func (.func f_f) s_f c_f) pr_f _ hv_xs ⟨_, _, _, rfl, hcal_f, fun r u hu' => hg_f r u (Ext.gr (Ext.refl w) hu')⟩)) ?_; rintro _ w4 ⟨E3, rfl⟩
  have X5 := Ext.gr (Ext.refl w) E3
  show wpList _ _ _ _ (fr [(.slice p_xs L_xs.length q_xs), (.func (.func f_f) s_f c_f), Ud, Ud, (Bo false), (.slice p_xs L_xs.length q_xs), (.func (.func f_f) s_f c_f), (Iv (findI pr_f L_xs)), Ud]) _
  refine q_is (l' := [(.slice p_xs L_xs.length q_xs), (.func (.func f_f) s_f c_f), Ud, Ud, (Bo false), (.slice p_xs L_xs.length q_xs), (.func (.func f_f) s_f c_f), (Iv (findI pr_f L_xs)), (Bo (icmp .geq (findI pr_f L_xs) 0))]) rfl rfl (does_icmp (p := findI pr_f L_xs) (q := 0) (.inr (.inr (.inr (.inr (.inr rfl))))) (ev rfl) (ev rfl)) rfl ?_
  refine q_is (l' := [(.slice p_xs L_xs.length q_xs), (.func (.func f_f) s_f c_f), Ud, Ud, (Bo (icmp .geq (findI pr_f L_xs) 0)), (.slice p_xs L_xs.length q_xs), (.func (.func f_f) s_f c_f), (Iv (findI pr_f L_xs)), (Bo (icmp .geq (findI pr_f L_xs) 0))]) rfl rfl (does_assign (u := (Bo (icmp .geq (findI pr_f L_xs) 0))) (ev rfl)) rfl ?_
  refine wpList_nil (hK2 _ _ ?_)
  refine wp_ret ?_
  refine ret_val (v := (Bo (icmp .geq (findI pr_f L_xs) 0))) (res_T rfl (slot rfl)) X5 ?_
  have x6 : (L_xs.any pr_f) = (icmp .geq (findI pr_f L_xs) 0) := by first | with_reducible rfl | (simp only [findI_any]; done) | (simp [findI_any]; done) | rfl
  exact (by first | rfl | rw [x6])

/- impl.IsFinite -/
theorem c_impl_IsFinite (x : Nat) (w : World) : Gives Try.prog 45 #[(Fl x)] w (fun v w' => v = (Bo (finF (cf .f32 x)))) := by
  refine enter [(Fl x), Ud, Ud, Ud, Ud, Ud, Ud] Try.func45 rfl Try.ntmps45 rfl ?_
  refine wp_seq_k fun K1 hK1 => ?_
  refine wp_region_lit ?_
  refine q_is (l' := [(Fl x), Ud, (Bo false), Ud, Ud, Ud, Ud]) rfl rfl (does_assign (u := (Bo false)) (ev rfl)) rfl ?_
  refine wpList_nil (hK1 _ _ ?_)
  refine wp_seq_k fun K2 hK2 => ?_
  refine wp_region_lit ?_
  refine q_is (l' := [(Fl x), Ud, (Bo false), (Fl x), Ud, Ud, Ud]) rfl rfl (does_move (u := (Fl x)) (ev rfl)) rfl ?_
  refine q_is (l' := [(Fl x), Ud, (Bo false), (Fl x), (Fl x), Ud, Ud]) rfl rfl (does_move (u := (Fl x)) (ev rfl)) rfl ?_
  refine seqd rfl rfl (does_float (.inr (.inl rfl)) (ev rfl) (ev rfl)) ?_; rintro _ w6 ⟨r3, rfl, h4, E5⟩
  have X7 := Ext.gr (Ext.refl w) E5
  show wpList _ _ _ _ (fr [(Fl x), Ud, (Bo false), (Fl x), (Fl x), (Fl r3), Ud]) _
  refine q_is (l' := [(Fl x), Ud, (Bo false), (Fl x), (Fl x), (Fl r3), (Bo (fcmp .eql (ford .f32 (cf .f32 r3) (cf .f32 0))))]) rfl rfl (does_fcmp (.inl rfl) (ev rfl) (ev rfl)) rfl ?_
  refine q_is (l' := [(Fl x), Ud, (Bo (fcmp .eql (ford .f32 (cf .f32 r3) (cf .f32 0)))), (Fl x), (Fl x), (Fl r3), (Bo (fcmp .eql (ford .f32 (cf .f32 r3) (cf .f32 0))))]) rfl rfl (does_assign (u := (Bo (fcmp .eql (ford .f32 (cf .f32 r3) (cf .f32 0))))) (ev rfl)) rfl ?_
  refine wpList_nil (hK2 _ _ ?_)
  refine wp_ret ?_
  refine ret_val (v := (Bo (fcmp .eql (ford .f32 (cf .f32 r3) (cf .f32 0))))) (res_T rfl (slot rfl)) X7 ?_
  have x8 : (finF (cf .f32 x)) = (fcmp .eql (ford .f32 (cf .f32 r3) (cf .f32 0))) := by first | with_reducible rfl | (simp only [finF, h4]; done) | (simp [finF, h4]; done) | rfl
  exact (by first | rfl | rw [x8])

/- impl.finite$1 -/
theorem c_impl_finite_1 (x : Nat) (w : World) : Gives Try.prog 44 #[(Fl x)] w (fun v w' => v = (Bo (!finF (cf .f32 x)))) := by
  refine enter [(Fl x), Ud, Ud, Ud, Ud, Ud] Try.func44 rfl Try.ntmps44 rfl ?_
  refine wp_seq_k fun K1 hK1 => ?_
  refine wp_region_lit ?_
  refine q_is (l' := [(Fl x), Ud, (Bo false), Ud, Ud, Ud]) rfl rfl (does_assign (u := (Bo false)) (ev rfl)) rfl ?_
  refine wpList_nil (hK1 _ _ ?_)
  refine wp_seq_k fun K2 hK2 => ?_
  refine wp_region_lit ?_
  refine q_is (l' := [(Fl x), Ud, (Bo false), (Fl x), Ud, Ud]) rfl rfl (does_move (u := (Fl x)) (ev rfl)) rfl ?_
  refine seqd rfl rfl (does_call (args := #[(Fl x)]) cal45 (evs rfl) (c_impl_IsFinite x _)) ?_; rintro _ w4 ⟨E3, rfl⟩
  have X5 := Ext.gr (Ext.refl w) E3
  show wpList _ _ _ _ (fr [(Fl x), Ud, (Bo false), (Fl x), (Bo (finF (cf .f32 x))), Ud]) _
  refine q_is (l' := [(Fl x), Ud, (Bo false), (Fl x), (Bo (finF (cf .f32 x))), (Bo (!(finF (cf .f32 x))))]) rfl rfl (does_not (ev rfl)) rfl ?_
  refine q_is (l' := [(Fl x), Ud, (Bo (!(finF (cf .f32 x)))), (Fl x), (Bo (finF (cf .f32 x))), (Bo (!(finF (cf .f32 x))))]) rfl rfl (does_assign (u := (Bo (!(finF (cf .f32 x))))) (ev rfl)) rfl ?_
  refine wpList_nil (hK2 _ _ ?_)
  refine wp_ret ?_
  refine ret_val (v := (Bo (!(finF (cf .f32 x))))) (res_T rfl (slot rfl)) X5 ?_
  have x6 : (!finF (cf .f32 x)) = (!(finF (cf .f32 x))) := by first | with_reducible rfl | (simp only []; done) | (simp []; done) | rfl
  exact (by first | rfl | rw [x6])

/- impl.finite -/
theorem c_impl_finite (xs : Value) (L_xs : List Nat) (w : World) (hv_xs : Sl RF 1 w xs L_xs) : Gives Try.prog 37 #[xs] w (fun v w' => v = (Bo (!L_xs.any (fun x => !finF x)))) := by
  have hlen_xs := Sl.len hv_xs; obtain ⟨p_xs, q_xs, rfl⟩ := Sl.shape hv_xs
  refine enter [(.slice p_xs L_xs.length q_xs), Ud, Ud, Ud, Ud, Ud] Try.func37 rfl Try.ntmps37 rfl ?_
  refine wp_seq_k fun K1 hK1 => ?_
  refine wp_region_lit ?_
  refine q_is (l' := [(.slice p_xs L_xs.length q_xs), Ud, (Bo false), Ud, Ud, Ud]) rfl rfl (does_assign (u := (Bo false)) (ev rfl)) rfl ?_
  refine wpList_nil (hK1 _ _ ?_)
  refine wp_seq_k fun K2 hK2 => ?_
  refine wp_region_lit ?_
  refine q_is (l' := [(.slice p_xs L_xs.length q_xs), Ud, (Bo false), (.slice p_xs L_xs.length q_xs), Ud, Ud]) rfl rfl (does_move (u := (.slice p_xs L_xs.length q_xs)) (ev rfl)) rfl ?_
  refine seqd rfl rfl (does_call (args := #[(.slice p_xs L_xs.length q_xs), (.func (.func 44) #[] #[])]) cal38 (evs rfl) (c_slices_ContainsFunc_float32_float32 (.slice p_xs L_xs.length q_xs) L_xs (.func (.func 44) #[] #[]) (fun x => !finF x) _ hv_xs ⟨44, #[], #[], rfl, cal44, fun r u hu' => by simpa using (c_impl_finite_1 r u)⟩)) ?_; rintro _ w4 ⟨E3, rfl⟩
  have X5 := Ext.gr (Ext.refl w) E3
  show wpList _ _ _ _ (fr [(.slice p_xs L_xs.length q_xs), Ud, (Bo false), (.slice p_xs L_xs.length q_xs), (Bo (L_xs.any (fun x => !finF x))), Ud]) _
  refine q_is (l' := [(.slice p_xs L_xs.length q_xs), Ud, (Bo false), (.slice p_xs L_xs.length q_xs), (Bo (L_xs.any (fun x => !finF x))), (Bo (!(L_xs.any (fun x => !finF x))))]) rfl rfl (does_not (ev rfl)) rfl ?_
  refine q_is (l' := [(.slice p_xs L_xs.length q_xs), Ud, (Bo (!(L_xs.any (fun x => !finF x)))), (.slice p_xs L_xs.length q_xs), (Bo (L_xs.any (fun x => !finF x))), (Bo (!(L_xs.any (fun x => !finF x))))]) rfl rfl (does_assign (u := (Bo (!(L_xs.any (fun x => !finF x))))) (ev rfl)) rfl ?_
  refine wpList_nil (hK2 _ _ ?_)
  refine wp_ret ?_
  refine ret_val (v := (Bo (!(L_xs.any (fun x => !finF x))))) (res_T rfl (slot rfl)) X5 ?_
  have x6 : (!L_xs.any (fun x => !finF x)) = (!(L_xs.any (fun x => !finF x))) := by first | with_reducible rfl | (simp only []; done) | (simp []; done) | rfl
  exact (by first | rfl | rw [x6])

/- impl.numbersOk$1 -/
theorem c_impl_numbersOk_1 (x : Nat) (r_b : Nat) (r_o : Nat) (r : List Value) (A_r : RuleT) (w : World) (hc_r : Cells w r_b r_o r) (hv_r : RRuleT w A_r r) : Gives Try.prog 39 #[(Fl x), (Pt r_b r_o)] w (fun v w' => v = (Bo ((A_r.sg == 1 && lssF (cf .f32 x)) || (A_r.sg == 2 && leqF (cf .f32 x))))) := by
  obtain rfl := hv_r
  refine enter [(Fl x), (Pt r_b r_o), Ud, Ud, Ud, Ud, Ud, Ud, Ud, Ud, Ud, Ud, Ud, Ud, Ud, Ud, Ud, Ud, Ud, Ud] Try.func39 rfl Try.ntmps39 rfl ?_
  refine wp_seq_k fun K1 hK1 => ?_
  refine wp_region_lit ?_
  refine q_is (l' := [(Fl x), (Pt r_b r_o), Ud, (Bo false), Ud, Ud, Ud, Ud, Ud, Ud, Ud, Ud, Ud, Ud, Ud, Ud, Ud, Ud, Ud, Ud]) rfl rfl (does_assign (u := (Bo false)) (ev rfl)) rfl ?_
  refine wpList_nil (hK1 _ _ ?_)
  refine wp_seq_k fun K2 hK2 => ?_
  obtain ⟨β1, hβ1⟩ : ∃ b : Bool, b = (fcmp .lss (ford .f32 (cf .f32 x) (cf .f32 0))) := ⟨_, rfl⟩
  obtain ⟨β2, hβ2⟩ : ∃ b : Bool, b = ((icmp .eql A_r.sg 1) && β1) := ⟨_, rfl⟩
  obtain ⟨β3, hβ3⟩ : ∃ b : Bool, b = (fcmp .leq (ford .f32 (cf .f32 x) (cf .f32 0))) := ⟨_, rfl⟩
  obtain ⟨β4, hβ4⟩ : ∃ b : Bool, b = ((icmp .eql A_r.sg 2) && β3) := ⟨_, rfl⟩
  refine region_text (
    [Fact.pure [] (fun v => v = (Pt r_b (r_o + 3))),
    Fact.pure [4] (fun v => v = (Iv A_r.sg)),
    Fact.pure [5] (fun v => v = (Bo (icmp .eql A_r.sg 1))),
    Fact.pure [6] (fun v => v = (Bo (icmp .eql A_r.sg 1))),
    Fact.pure [7] (fun v => (icmp .eql A_r.sg 1) = true → v = (Fl x)),
    Fact.pure [8, 7] (fun v => (icmp .eql A_r.sg 1) = true → v = (Bo β1)),
    Fact.pure [7, 9] (fun v => v = (Bo β2)),
    Fact.pure [10] (fun v => v = (Bo β2)),
    Fact.pure [11] (fun v => β2 = false → v = (Pt r_b (r_o + 3))),
    Fact.pure [12, 11] (fun v => β2 = false → v = (Iv A_r.sg)),
    Fact.pure [13, 11] (fun v => β2 = false → v = (Bo (icmp .eql A_r.sg 2))),
    Fact.pure [14, 11] (fun v => (β2 = false → v = (Bo (icmp .eql A_r.sg 2))) ∧ (¬ (β2 = false) → v = undef)),
    Fact.pure [15] (fun v => β2 = false → (icmp .eql A_r.sg 2) = true → v = (Fl x)),
    Fact.pure [16, 15] (fun v => β2 = false → (icmp .eql A_r.sg 2) = true → v = (Bo β3)),
    Fact.pure [15, 17, 11] (fun v => β2 = false → v = (Bo β4)),
    Fact.pure [11, 18] (fun v => v = (Bo (β2 || β4)))]) (by simp [Fact.pure, Fact.mem]) ?_
  refine RW_d (fun v3 => [(Fl x), (Pt r_b r_o), Ud, (Bo false), v3, Ud, Ud, Ud, Ud, Ud, Ud, Ud, Ud, Ud, Ud, Ud, Ud, Ud, Ud, Ud]) rfl (fun _ => rfl) (fun u hu hF => ?_) (fun v3 => ?_)
  · clear hF
    refine doesG_un rfl ?_
    refine (does_fieldAddr (ev rfl) fa65_3).mono ?_; rintro _ _ ⟨rfl, rfl⟩
    exact ⟨rfl, Ext.refl _⟩
  refine RW_d (fun v4 => [(Fl x), (Pt r_b r_o), Ud, (Bo false), v3, v4, Ud, Ud, Ud, Ud, Ud, Ud, Ud, Ud, Ud, Ud, Ud, Ud, Ud, Ud]) rfl (fun _ => rfl) (fun u hu hF => ?_) (fun v4 => ?_)
  · have h4_ : v3 = (Pt r_b (r_o + 3)) := hF.1
    clear hF
    refine doesG_un rfl ?_
    obtain rfl := h4_
    refine (does_load (u := (Iv A_r.sg)) (ev rfl) Try.isAgg3 (Cells.at (hc_r.ext hu) 3 rfl)).mono ?_; rintro _ _ ⟨rfl, rfl⟩
    exact ⟨rfl, Ext.refl _⟩
  refine RW_d (fun v5 => [(Fl x), (Pt r_b r_o), Ud, (Bo false), v3, v4, v5, Ud, Ud, Ud, Ud, Ud, Ud, Ud, Ud, Ud, Ud, Ud, Ud, Ud]) rfl (fun _ => rfl) (fun u hu hF => ?_) (fun v5 => ?_)
  · have h5_ : v4 = (Iv A_r.sg) := hF.1
    clear hF
    refine doesG_un rfl ?_
    obtain rfl := h5_
    refine (does_icmp (p := A_r.sg) (q := 1) (.inl rfl) (ev rfl) (ev rfl)).mono ?_; rintro _ _ ⟨rfl, rfl⟩
    exact ⟨rfl, Ext.refl _⟩
  refine RW_d (fun v6 => [(Fl x), (Pt r_b r_o), Ud, (Bo false), v3, v4, v5, v6, Ud, Ud, Ud, Ud, Ud, Ud, Ud, Ud, Ud, Ud, Ud, Ud]) rfl (fun _ => rfl) (fun u hu hF => ?_) (fun v6 => ?_)
  · have h6_ : v5 = (Bo (icmp .eql A_r.sg 1)) := hF.1
    clear hF
    refine doesG_un rfl ?_
    obtain rfl := h6_
    refine (does_move (u := (Bo (icmp .eql A_r.sg 1))) (ev rfl)).mono ?_; rintro _ _ ⟨rfl, rfl⟩
    exact ⟨rfl, Ext.refl _⟩
  refine RW_d (fun v7 => [(Fl x), (Pt r_b r_o), Ud, (Bo false), v3, v4, v5, v6, v7, Ud, Ud, Ud, Ud, Ud, Ud, Ud, Ud, Ud, Ud, Ud]) rfl (fun _ => rfl) (fun u hu hF => ?_) (fun v7 => ?_)
  · have h7_ : v6 = (Bo (icmp .eql A_r.sg 1)) := hF.1
    clear hF
    obtain rfl := h7_
    refine doesG_g (b := (icmp .eql A_r.sg 1)) rfl (yld rfl rfl) (fun hg1 => ?_) (fun hc => ⟨fun hg1 => absurd hg1 hc, Ext.refl _⟩)
    refine (does_move (u := (Fl x)) (ev rfl)).mono ?_; rintro _ _ ⟨rfl, rfl⟩
    exact ⟨fun _ => rfl, Ext.refl _⟩
  refine RW_d (fun v8 => [(Fl x), (Pt r_b r_o), Ud, (Bo false), v3, v4, v5, v6, v7, v8, Ud, Ud, Ud, Ud, Ud, Ud, Ud, Ud, Ud, Ud]) rfl (fun _ => rfl) (fun u hu hF => ?_) (fun v8 => ?_)
  · have h8_ : (icmp .eql A_r.sg 1) = true → v7 = (Fl x) := hF.1
    have h7_ : v6 = (Bo (icmp .eql A_r.sg 1)) := hF.2.1
    clear hF
    obtain rfl := h7_
    refine doesG_g (b := (icmp .eql A_r.sg 1)) rfl (yld rfl rfl) (fun hg1 => ?_) (fun hc => ⟨fun hg1 => absurd hg1 hc, Ext.refl _⟩)
    obtain rfl := h8_ hg1
    refine (does_fcmp (.inr (.inr (.inl rfl))) (ev rfl) (ev rfl)).mono ?_; rintro _ _ ⟨rfl, rfl⟩
    exact ⟨fun _ => (by first | rfl | (show _ = _; simp only [hβ1])), Ext.refl _⟩
  refine RW_d (fun v9 => [(Fl x), (Pt r_b r_o), Ud, (Bo false), v3, v4, v5, v6, v7, v8, v9, Ud, Ud, Ud, Ud, Ud, Ud, Ud, Ud, Ud]) rfl (fun _ => rfl) (fun u hu hF => ?_) (fun v9 => ?_)
  · have h7_ : v6 = (Bo (icmp .eql A_r.sg 1)) := hF.1
    have h9_ : (icmp .eql A_r.sg 1) = true → v8 = (Bo β1) := hF.2.1
    clear hF
    refine doesG_un rfl ?_
    skip
    obtain rfl := h7_
    refine (does_pick (b := (icmp .eql A_r.sg 1)) (ev rfl) (ev rfl) (ev rfl)).mono ?_; rintro _ _ ⟨rfl, rfl⟩; refine ⟨?_, Ext.refl _⟩; rw [hβ2]; skip
    cases hbb : (icmp .eql A_r.sg 1) <;> simp [hbb] at h9_ ⊢
    all_goals (first | rfl | (subst h9_; rfl) | simp_all)
  refine RW_d (fun v10 => [(Fl x), (Pt r_b r_o), Ud, (Bo false), v3, v4, v5, v6, v7, v8, v9, v10, Ud, Ud, Ud, Ud, Ud, Ud, Ud, Ud]) rfl (fun _ => rfl) (fun u hu hF => ?_) (fun v10 => ?_)
  · have h10_ : v9 = (Bo β2) := hF.1
    clear hF
    refine doesG_un rfl ?_
    obtain rfl := h10_
    refine (does_move (u := (Bo β2)) (ev rfl)).mono ?_; rintro _ _ ⟨rfl, rfl⟩
    exact ⟨rfl, Ext.refl _⟩
  refine RW_d (fun v11 => [(Fl x), (Pt r_b r_o), Ud, (Bo false), v3, v4, v5, v6, v7, v8, v9, v10, v11, Ud, Ud, Ud, Ud, Ud, Ud, Ud]) rfl (fun _ => rfl) (fun u hu hF => ?_) (fun v11 => ?_)
  · have h11_ : v10 = (Bo β2) := hF.1
    clear hF
    obtain rfl := h11_
    refine doesG_g (b := β2) rfl (yld rfl rfl) (fun hg1 => ?_) (fun hc => ⟨fun hg1 => absurd hg1 hc, Ext.refl _⟩)
    refine (does_fieldAddr (ev rfl) fa65_3).mono ?_; rintro _ _ ⟨rfl, rfl⟩
    exact ⟨fun _ => rfl, Ext.refl _⟩
  refine RW_d (fun v12 => [(Fl x), (Pt r_b r_o), Ud, (Bo false), v3, v4, v5, v6, v7, v8, v9, v10, v11, v12, Ud, Ud, Ud, Ud, Ud, Ud]) rfl (fun _ => rfl) (fun u hu hF => ?_) (fun v12 => ?_)
  · have h12_ : β2 = false → v11 = (Pt r_b (r_o + 3)) := hF.1
    have h11_ : v10 = (Bo β2) := hF.2.1
    clear hF
    obtain rfl := h11_
    refine doesG_g (b := β2) rfl (yld rfl rfl) (fun hg1 => ?_) (fun hc => ⟨fun hg1 => absurd hg1 hc, Ext.refl _⟩)
    obtain rfl := h12_ hg1
    refine (does_load (u := (Iv A_r.sg)) (ev rfl) Try.isAgg3 (Cells.at (hc_r.ext hu) 3 rfl)).mono ?_; rintro _ _ ⟨rfl, rfl⟩
    exact ⟨fun _ => rfl, Ext.refl _⟩
  refine RW_d (fun v13 => [(Fl x), (Pt r_b r_o), Ud, (Bo false), v3, v4, v5, v6, v7, v8, v9, v10, v11, v12, v13, Ud, Ud, Ud, Ud, Ud]) rfl (fun _ => rfl) (fun u hu hF => ?_) (fun v13 => ?_)
  · have h13_ : β2 = false → v12 = (Iv A_r.sg) := hF.1
    have h11_ : v10 = (Bo β2) := hF.2.1
    clear hF
    obtain rfl := h11_
    refine doesG_g (b := β2) rfl (yld rfl rfl) (fun hg1 => ?_) (fun hc => ⟨fun hg1 => absurd hg1 hc, Ext.refl _⟩)
    obtain rfl := h13_ hg1
    refine (does_icmp (p := A_r.sg) (q := 2) (.inl rfl) (ev rfl) (ev rfl)).mono ?_; rintro _ _ ⟨rfl, rfl⟩
    exact ⟨fun _ => rfl, Ext.refl _⟩
  refine RW_d (fun v14 => [(Fl x), (Pt r_b r_o), Ud, (Bo false), v3, v4, v5, v6, v7, v8, v9, v10, v11, v12, v13, v14, Ud, Ud, Ud, Ud]) rfl (fun _ => rfl) (fun u hu hF => ?_) (fun v14 => ?_)
  · have h14_ : β2 = false → v13 = (Bo (icmp .eql A_r.sg 2)) := hF.1
    have h11_ : v10 = (Bo β2) := hF.2.1
    clear hF
    obtain rfl := h11_
    refine doesG_g (b := β2) rfl (yld rfl rfl) (fun hg1 => ?_) (fun hc => ⟨⟨fun hg1 => absurd hg1 hc, fun _ => rfl⟩, Ext.refl _⟩)
    obtain rfl := h14_ hg1
    refine (does_move (u := (Bo (icmp .eql A_r.sg 2))) (ev rfl)).mono ?_; rintro _ _ ⟨rfl, rfl⟩
    exact ⟨⟨fun _ => rfl, fun hn => absurd hg1 hn⟩, Ext.refl _⟩
  refine RW_d (fun v15 => [(Fl x), (Pt r_b r_o), Ud, (Bo false), v3, v4, v5, v6, v7, v8, v9, v10, v11, v12, v13, v14, v15, Ud, Ud, Ud]) rfl (fun _ => rfl) (fun u hu hF => ?_) (fun v15 => ?_)
  · have h15_ : (β2 = false → v14 = (Bo (icmp .eql A_r.sg 2))) ∧ (¬ (β2 = false) → v14 = undef) := hF.1; have h15u := h15_.2; replace h15_ := h15_.1
    clear hF
    refine doesG_gg (b := (icmp .eql A_r.sg 2)) (c := β2 = false) rfl (fun hc => ?_) (fun hc => ?_) (fun hc hg2 => ?_) (fun hc => ⟨fun hg1 hg2 => absurd ⟨hg1, hg2⟩ hc, Ext.refl _⟩)
    · have hg1 := hc; obtain rfl := h15_ hg1; exact yld rfl rfl
    · obtain rfl := h15u hc; exact yldn rfl rfl
    have hg1 := hc
    obtain rfl := h15_ hg1
    refine (does_move (u := (Fl x)) (ev rfl)).mono ?_; rintro _ _ ⟨rfl, rfl⟩
    exact ⟨fun _ _ => rfl, Ext.refl _⟩
  refine RW_d (fun v16 => [(Fl x), (Pt r_b r_o), Ud, (Bo false), v3, v4, v5, v6, v7, v8, v9, v10, v11, v12, v13, v14, v15, v16, Ud, Ud]) rfl (fun _ => rfl) (fun u hu hF => ?_) (fun v16 => ?_)
  · have h16_ : β2 = false → (icmp .eql A_r.sg 2) = true → v15 = (Fl x) := hF.1
    have h15_ : (β2 = false → v14 = (Bo (icmp .eql A_r.sg 2))) ∧ (¬ (β2 = false) → v14 = undef) := hF.2.1; have h15u := h15_.2; replace h15_ := h15_.1
    clear hF
    refine doesG_gg (b := (icmp .eql A_r.sg 2)) (c := β2 = false) rfl (fun hc => ?_) (fun hc => ?_) (fun hc hg2 => ?_) (fun hc => ⟨fun hg1 hg2 => absurd ⟨hg1, hg2⟩ hc, Ext.refl _⟩)
    · have hg1 := hc; obtain rfl := h15_ hg1; exact yld rfl rfl
    · obtain rfl := h15u hc; exact yldn rfl rfl
    have hg1 := hc
    obtain rfl := h15_ hg1
    obtain rfl := h16_ hg1 hg2
    refine (does_fcmp (.inr (.inr (.inr (.inl rfl)))) (ev rfl) (ev rfl)).mono ?_; rintro _ _ ⟨rfl, rfl⟩
    exact ⟨fun _ _ => (by first | rfl | (show _ = _; simp only [hβ3])), Ext.refl _⟩
  refine RW_d (fun v17 => [(Fl x), (Pt r_b r_o), Ud, (Bo false), v3, v4, v5, v6, v7, v8, v9, v10, v11, v12, v13, v14, v15, v16, v17, Ud]) rfl (fun _ => rfl) (fun u hu hF => ?_) (fun v17 => ?_)
  · have h15_ : (β2 = false → v14 = (Bo (icmp .eql A_r.sg 2))) ∧ (¬ (β2 = false) → v14 = undef) := hF.1; have h15u := h15_.2; replace h15_ := h15_.1
    have h17_ : β2 = false → (icmp .eql A_r.sg 2) = true → v16 = (Bo β3) := hF.2.1
    have h11_ : v10 = (Bo β2) := hF.2.2.1
    clear hF
    obtain rfl := h11_
    refine doesG_g (b := β2) rfl (yld rfl rfl) (fun hg1 => ?_) (fun hc => ⟨fun hg1 => absurd hg1 hc, Ext.refl _⟩)
    skip
    obtain rfl := h15_ hg1
    replace h17_ := h17_ hg1
    refine (does_pick (b := (icmp .eql A_r.sg 2)) (ev rfl) (ev rfl) (ev rfl)).mono ?_; rintro _ _ ⟨rfl, rfl⟩; refine ⟨fun _ => ?_, Ext.refl _⟩; rw [hβ4]; skip
    cases hbb : (icmp .eql A_r.sg 2) <;> simp [hbb] at h17_ ⊢
    all_goals (first | rfl | (subst h17_; rfl) | simp_all)
  refine RW_d (fun v18 => [(Fl x), (Pt r_b r_o), Ud, (Bo false), v3, v4, v5, v6, v7, v8, v9, v10, v11, v12, v13, v14, v15, v16, v17, v18]) rfl (fun _ => rfl) (fun u hu hF => ?_) (fun v18 => ?_)
  · have h11_ : v10 = (Bo β2) := hF.1
    have h18_ : β2 = false → v17 = (Bo β4) := hF.2.1
    clear hF
    refine doesG_un rfl ?_
    skip
    obtain rfl := h11_
    refine (does_pick (b := β2) (ev rfl) (ev rfl) (ev rfl)).mono ?_; rintro _ _ ⟨rfl, rfl⟩; refine ⟨?_, Ext.refl _⟩; skip
    cases hbb : β2 <;> simp [hbb] at h18_ ⊢
    all_goals (first | rfl | (subst h18_; rfl) | simp_all)
  refine RW_fin ?_; intro w19 E20 hP21
  obtain ⟨⟨⟨⟨⟨⟨⟨⟨⟨⟨⟨⟨⟨⟨⟨⟨-, -⟩, -⟩, -⟩, -⟩, -⟩, -⟩, -⟩, -⟩, -⟩, -⟩, -⟩, -⟩, -⟩, -⟩, -⟩, q22⟩ := hP21
  have X23 := Ext.gr (Ext.refl w) E20
  have q22 : v18 = (Bo (β2 || β4)) := q22
  obtain rfl := q22
  show wpList _ _ _ _ (fr [(Fl x), (Pt r_b r_o), Ud, (Bo false), v3, v4, v5, v6, v7, v8, v9, v10, v11, v12, v13, v14, v15, v16, v17, (Bo (β2 || β4))]) _
  refine q_is (l' := [(Fl x), (Pt r_b r_o), Ud, (Bo (β2 || β4)), v3, v4, v5, v6, v7, v8, v9, v10, v11, v12, v13, v14, v15, v16, v17, (Bo (β2 || β4))]) rfl rfl (does_assign (u := (Bo (β2 || β4))) (ev rfl)) rfl ?_
  refine wpList_nil (hK2 _ _ ?_)
  refine wp_ret ?_
  refine ret_val (v := (Bo (β2 || β4))) (res_T rfl (slot rfl)) X23 ?_
  have x24 : ((A_r.sg == 1 && lssF (cf .f32 x)) || (A_r.sg == 2 && leqF (cf .f32 x))) = (β2 || β4) := by first | with_reducible rfl | (simp only [lssF, leqF, icmp, hβ1, hβ2, hβ3, hβ4]; done) | (simp [lssF, leqF, icmp, hβ1, hβ2, hβ3, hβ4]; done) | rfl
  exact (by first | rfl | rw [x24])

/- impl.numbersOk -/
theorem c_impl_numbersOk (kind : Int) (nums : Value) (L_nums : List Nat) (w : World) (hv_nums : Sl RF 1 w nums L_nums) : Gives Try.prog 25 #[(Iv kind), nums] w (fun v w' => v = (Bo (rlOk kind && nodeNums kind L_nums))) := by
  have hlen_nums := Sl.len hv_nums; obtain ⟨p_nums, q_nums, rfl⟩ := Sl.shape hv_nums
  refine enter [(Iv kind), (.slice p_nums L_nums.length q_nums), Ud, Ud, Ud, Ud, Ud, Ud, Ud, Ud, Ud, Ud, Ud, Ud, Ud, Ud, Ud, Ud, Ud, Ud, Ud, Ud, Ud, Ud, Ud, Ud, Ud, Ud, Ud, Ud] Try.func25 rfl Try.ntmps25 rfl ?_
  refine wp_seq_k fun K1 hK1 => ?_
  refine wp_region_lit ?_
  refine q_is rfl rfl (does_assign (u := (Bo false)) (ev rfl)) (by dsimp only [List.set]; try rfl) ?_
  refine wpList_nil (hK1 _ _ ?_)
  refine wp_seq_k fun K2 hK2 => ?_
  refine wp_region_lit ?_
  refine q_is rfl rfl (does_move (u := (Iv kind)) (ev rfl)) (by dsimp only [List.set]; try rfl) ?_
  refine seqd rfl rfl (does_call (args := #[(Iv kind)]) cal36 (evs rfl) (c_impl_ruleOf kind _)) ?_; rintro _ w4 ⟨E3, ⟨_, rfl, rfl⟩⟩
  have X5 := Ext.gr (Ext.refl w) E3
  show wpList _ _ _ _ (fr [(Iv kind), (.slice p_nums L_nums.length q_nums), Ud, Ud, (Bo false), Ud, Ud, Ud, (Iv kind), (.tuple #[(.agg #[(Iv ((ruleP kind).num)), (Iv ((ruleP kind).ch)), (Bo ((ruleP kind).ax)), (Iv ((ruleP kind).sg))]), (Bo (rlOk kind))]), Ud, Ud, Ud, Ud, Ud, Ud, Ud, Ud, Ud, Ud, Ud, Ud, Ud, Ud, Ud, Ud, Ud, Ud, Ud, Ud]) _
  refine q_is rfl rfl (does_move (u := (.tuple #[(.agg #[(Iv ((ruleP kind).num)), (Iv ((ruleP kind).ch)), (Bo ((ruleP kind).ax)), (Iv ((ruleP kind).sg))]), (Bo (rlOk kind))])) (ev rfl)) (by dsimp only [List.set]; try rfl) ?_
  refine q_is rfl rfl (does_extract (vs := #[(.agg #[(Iv ((ruleP kind).num)), (Iv ((ruleP kind).ch)), (Bo ((ruleP kind).ax)), (Iv ((ruleP kind).sg))]), (Bo (rlOk kind))]) (u := (.agg #[(Iv ((ruleP kind).num)), (Iv ((ruleP kind).ch)), (Bo ((ruleP kind).ax)), (Iv ((ruleP kind).sg))])) (ev rfl) rfl) (by dsimp only [List.set]; try rfl) ?_
  refine q_is rfl rfl (does_extract (vs := #[(.agg #[(Iv ((ruleP kind).num)), (Iv ((ruleP kind).ch)), (Bo ((ruleP kind).ax)), (Iv ((ruleP kind).sg))]), (Bo (rlOk kind))]) (u := (Bo (rlOk kind))) (ev rfl) rfl) (by dsimp only [List.set]; try rfl) ?_
  refine seqd rfl rfl (does_alloc z65) ?_; rintro _ w10 ⟨b6, rfl, hb7, hB8, E9⟩
  have g11 : w.heap.size ≤ b6 := Nat.le_trans (Below.size X5) hb7
  change Blk _ _ [(Iv 0), (Iv 0), (Bo false), (Iv 0)] at hB8
  have X12 := Ext.gr X5 E9
  show wpList _ _ _ _ (fr [(Iv kind), (.slice p_nums L_nums.length q_nums), Ud, Ud, (Bo false), (Pt b6 0), Ud, (.tuple #[(.agg #[(Iv ((ruleP kind).num)), (Iv ((ruleP kind).ch)), (Bo ((ruleP kind).ax)), (Iv ((ruleP kind).sg))]), (Bo (rlOk kind))]), (Iv kind), (.tuple #[(.agg #[(Iv ((ruleP kind).num)), (Iv ((ruleP kind).ch)), (Bo ((ruleP kind).ax)), (Iv ((ruleP kind).sg))]), (Bo (rlOk kind))]), (.agg #[(Iv ((ruleP kind).num)), (Iv ((ruleP kind).ch)), (Bo ((ruleP kind).ax)), (Iv ((ruleP kind).sg))]), (Bo (rlOk kind)), Ud, Ud, Ud, Ud, Ud, Ud, Ud, Ud, Ud, Ud, Ud, Ud, Ud, Ud, Ud, Ud, Ud, Ud]) _
  refine seqn rfl rfl (does_store (n := 4) (cs := [(Iv 0), (Iv 0), (Bo false), (Iv 0)]) (u := (.agg #[(Iv ((ruleP kind).num)), (Iv ((ruleP kind).ch)), (Bo ((ruleP kind).ax)), (Iv ((ruleP kind).sg))])) (ev rfl) (ev rfl) Try.sizeOf65 rfl hB8 (Nat.le_of_ble_eq_true rfl) rfl) ?_; rintro _ w15 ⟨rfl, W13, hB14⟩
  change Blk _ _ [(Iv ((ruleP kind).num)), (Iv ((ruleP kind).ch)), (Bo ((ruleP kind).ax)), (Iv ((ruleP kind).sg))] at hB14
  have X16 := Below.wr X12 W13 g11
  refine q_is rfl rfl (does_assign (u := (Bo (rlOk kind))) (ev rfl)) (by dsimp only [List.set]; try rfl) ?_
  refine wpList_nil (hK2 _ _ ?_)
  refine wp_seq_k fun K17 hK17 => ?_
  refine wp_seq_k fun K18 hK18 => ?_
  obtain ⟨β1, hβ1⟩ : ∃ b : Bool, b = (icmp .neq (L_nums.length : Int) ((ruleP kind).num)) := ⟨_, rfl⟩
  obtain ⟨β2, hβ2⟩ : ∃ b : Bool, b = (!L_nums.any (fun x => !finF x)) := ⟨_, rfl⟩
  obtain ⟨β3, hβ3⟩ : ∃ b : Bool, b = (((!(rlOk kind)) || β1) || (!β2)) := ⟨_, rfl⟩
  refine region_text (
    [Fact.pure [] (fun v => v = (Bo (rlOk kind))),
    Fact.pure [12] (fun v => v = (Bo (!(rlOk kind)))),
    Fact.pure [13] (fun v => v = (Bo (!(rlOk kind)))),
    Fact.pure [14] (fun v => (!(rlOk kind)) = false → v = (.slice p_nums L_nums.length q_nums)),
    Fact.pure [15, 14] (fun v => (!(rlOk kind)) = false → v = (Iv (L_nums.length : Int))),
    Fact.pure [14] (fun v => (!(rlOk kind)) = false → v = (Pt b6 0)),
    Fact.pure [17, 14] (fun v => (!(rlOk kind)) = false → v = (Iv ((ruleP kind).num))),
    Fact.pure [16, 18, 14] (fun v => (!(rlOk kind)) = false → v = (Bo β1)),
    Fact.pure [14, 19] (fun v => v = (Bo ((!(rlOk kind)) || β1))),
    Fact.pure [20] (fun v => v = (Bo ((!(rlOk kind)) || β1))),
    Fact.pure [21] (fun v => ((!(rlOk kind)) || β1) = false → v = (.slice p_nums L_nums.length q_nums)),
    Fact.pure [22, 21] (fun v => ((!(rlOk kind)) || β1) = false → v = (Bo β2)),
    Fact.pure [23, 21] (fun v => ((!(rlOk kind)) || β1) = false → v = (Bo (!β2))),
    Fact.pure [21, 24] (fun v => v = (Bo β3))]) (by simp [Fact.pure, Fact.mem]) ?_
  refine RW_d _ rfl (fun v => by dsimp only [List.set]; try rfl) (fun u hu hF => ?_) (fun v19 => ?_)
  · clear hF
    refine doesG_un rfl ?_
    refine (does_move (u := (Bo (rlOk kind))) (ev rfl)).mono ?_; rintro _ _ ⟨rfl, rfl⟩
    exact ⟨rfl, Ext.refl _⟩
  refine RW_d _ rfl (fun v => by dsimp only [List.set]; try rfl) (fun u hu hF => ?_) (fun v20 => ?_)
  · have h12_ : v19 = (Bo (rlOk kind)) := hF.1
    clear hF
    refine doesG_un rfl ?_
    obtain rfl := h12_
    refine (does_not (ev rfl)).mono ?_; rintro _ _ ⟨rfl, rfl⟩
    exact ⟨rfl, Ext.refl _⟩
  refine RW_d _ rfl (fun v => by dsimp only [List.set]; try rfl) (fun u hu hF => ?_) (fun v21 => ?_)
  · have h13_ : v20 = (Bo (!(rlOk kind))) := hF.1
    clear hF
    refine doesG_un rfl ?_
    obtain rfl := h13_
    refine (does_move (u := (Bo (!(rlOk kind)))) (ev rfl)).mono ?_; rintro _ _ ⟨rfl, rfl⟩
    exact ⟨rfl, Ext.refl _⟩
  refine RW_d _ rfl (fun v => by dsimp only [List.set]; try rfl) (fun u hu hF => ?_) (fun v22 => ?_)
  · have h14_ : v21 = (Bo (!(rlOk kind))) := hF.1
    clear hF
    obtain rfl := h14_
    refine doesG_g (b := (!(rlOk kind))) rfl (yld rfl rfl) (fun hg1 => ?_) (fun hc => ⟨fun hg1 => absurd hg1 hc, Ext.refl _⟩)
    refine (does_move (u := (.slice p_nums L_nums.length q_nums)) (ev rfl)).mono ?_; rintro _ _ ⟨rfl, rfl⟩
    exact ⟨fun _ => rfl, Ext.refl _⟩
  refine RW_d _ rfl (fun v => by dsimp only [List.set]; try rfl) (fun u hu hF => ?_) (fun v23 => ?_)
  · have h15_ : (!(rlOk kind)) = false → v22 = (.slice p_nums L_nums.length q_nums) := hF.1
    have h14_ : v21 = (Bo (!(rlOk kind))) := hF.2.1
    clear hF
    obtain rfl := h14_
    refine doesG_g (b := (!(rlOk kind))) rfl (yld rfl rfl) (fun hg1 => ?_) (fun hc => ⟨fun hg1 => absurd hg1 hc, Ext.refl _⟩)
    obtain rfl := h15_ hg1
    refine (does_len_slice Try.underlying32 (ev rfl)).mono ?_; rintro _ _ ⟨rfl, rfl⟩
    exact ⟨fun _ => rfl, Ext.refl _⟩
  refine RW_d _ rfl (fun v => by dsimp only [List.set]; try rfl) (fun u hu hF => ?_) (fun v24 => ?_)
  · have h14_ : v21 = (Bo (!(rlOk kind))) := hF.1
    clear hF
    obtain rfl := h14_
    refine doesG_g (b := (!(rlOk kind))) rfl (yld rfl rfl) (fun hg1 => ?_) (fun hc => ⟨fun hg1 => absurd hg1 hc, Ext.refl _⟩)
    refine (does_fieldAddr (ev rfl) fa65_0).mono ?_; rintro _ _ ⟨rfl, rfl⟩
    exact ⟨fun _ => rfl, Ext.refl _⟩
  refine RW_d _ rfl (fun v => by dsimp only [List.set]; try rfl) (fun u hu hF => ?_) (fun v25 => ?_)
  · have h17_ : (!(rlOk kind)) = false → v24 = (Pt b6 0) := hF.1
    have h14_ : v21 = (Bo (!(rlOk kind))) := hF.2.1
    clear hF
    obtain rfl := h14_
    refine doesG_g (b := (!(rlOk kind))) rfl (yld rfl rfl) (fun hg1 => ?_) (fun hc => ⟨fun hg1 => absurd hg1 hc, Ext.refl _⟩)
    obtain rfl := h17_ hg1
    refine (does_load (u := (Iv ((ruleP kind).num))) (ev rfl) Try.isAgg3 (Cells.at (Blk.cells (hB14.ext hu)) 0 rfl)).mono ?_; rintro _ _ ⟨rfl, rfl⟩
    exact ⟨fun _ => rfl, Ext.refl _⟩
  refine RW_d _ rfl (fun v => by dsimp only [List.set]; try rfl) (fun u hu hF => ?_) (fun v26 => ?_)
  · have h16_ : (!(rlOk kind)) = false → v23 = (Iv (L_nums.length : Int)) := hF.1
    have h18_ : (!(rlOk kind)) = false → v25 = (Iv ((ruleP kind).num)) := hF.2.1
    have h14_ : v21 = (Bo (!(rlOk kind))) := hF.2.2.1
    clear hF
    obtain rfl := h14_
    refine doesG_g (b := (!(rlOk kind))) rfl (yld rfl rfl) (fun hg1 => ?_) (fun hc => ⟨fun hg1 => absurd hg1 hc, Ext.refl _⟩)
    obtain rfl := h16_ hg1
    obtain rfl := h18_ hg1
    refine (does_icmp (p := (L_nums.length : Int)) (q := (ruleP kind).num) (.inr (.inl rfl)) (ev rfl) (ev rfl)).mono ?_; rintro _ _ ⟨rfl, rfl⟩
    exact ⟨fun _ => (by first | rfl | (show _ = _; simp only [hβ1])), Ext.refl _⟩
  refine RW_d _ rfl (fun v => by dsimp only [List.set]; try rfl) (fun u hu hF => ?_) (fun v27 => ?_)
  · have h14_ : v21 = (Bo (!(rlOk kind))) := hF.1
    have h19_ : (!(rlOk kind)) = false → v26 = (Bo β1) := hF.2.1
    clear hF
    refine doesG_un rfl ?_
    skip
    obtain rfl := h14_
    refine (does_pick (b := (!(rlOk kind))) (ev rfl) (ev rfl) (ev rfl)).mono ?_; rintro _ _ ⟨rfl, rfl⟩; refine ⟨?_, Ext.refl _⟩; skip
    cases hbb : (!(rlOk kind)) <;> simp [hbb] at h19_ ⊢
    all_goals (first | rfl | (subst h19_; rfl) | simp_all)
  refine RW_d _ rfl (fun v => by dsimp only [List.set]; try rfl) (fun u hu hF => ?_) (fun v28 => ?_)
  · have h20_ : v27 = (Bo ((!(rlOk kind)) || β1)) := hF.1
    clear hF
    refine doesG_un rfl ?_
    obtain rfl := h20_
    refine (does_move (u := (Bo ((!(rlOk kind)) || β1))) (ev rfl)).mono ?_; rintro _ _ ⟨rfl, rfl⟩
    exact ⟨rfl, Ext.refl _⟩
  refine RW_d _ rfl (fun v => by dsimp only [List.set]; try rfl) (fun u hu hF => ?_) (fun v29 => ?_)
  · have h21_ : v28 = (Bo ((!(rlOk kind)) || β1)) := hF.1
    clear hF
    obtain rfl := h21_
    refine doesG_g (b := ((!(rlOk kind)) || β1)) rfl (yld rfl rfl) (fun hg1 => ?_) (fun hc => ⟨fun hg1 => absurd hg1 hc, Ext.refl _⟩)
    refine (does_move (u := (.slice p_nums L_nums.length q_nums)) (ev rfl)).mono ?_; rintro _ _ ⟨rfl, rfl⟩
    exact ⟨fun _ => rfl, Ext.refl _⟩
  refine RW_d _ rfl (fun v => by dsimp only [List.set]; try rfl) (fun u hu hF => ?_) (fun v30 => ?_)
  · have h22_ : ((!(rlOk kind)) || β1) = false → v29 = (.slice p_nums L_nums.length q_nums) := hF.1
    have h21_ : v28 = (Bo ((!(rlOk kind)) || β1)) := hF.2.1
    clear hF
    obtain rfl := h21_
    refine doesG_g (b := ((!(rlOk kind)) || β1)) rfl (yld rfl rfl) (fun hg1 => ?_) (fun hc => ⟨fun hg1 => absurd hg1 hc, Ext.refl _⟩)
    obtain rfl := h22_ hg1
    refine (does_call (args := #[(.slice p_nums L_nums.length q_nums)]) cal37 (evs rfl) (c_impl_finite (.slice p_nums L_nums.length q_nums) L_nums _ (Sl.ext (Sl.ext hv_nums RF.mono X16) RF.mono hu))).mono ?_; rintro v u' ⟨hx, hv⟩
    exact ⟨fun _ => hv.trans (by simp only [hβ2]), hx⟩
  refine RW_d _ rfl (fun v => by dsimp only [List.set]; try rfl) (fun u hu hF => ?_) (fun v31 => ?_)
  · have h23_ : ((!(rlOk kind)) || β1) = false → v30 = (Bo β2) := hF.1
    have h21_ : v28 = (Bo ((!(rlOk kind)) || β1)) := hF.2.1
    clear hF
    obtain rfl := h21_
    refine doesG_g (b := ((!(rlOk kind)) || β1)) rfl (yld rfl rfl) (fun hg1 => ?_) (fun hc => ⟨fun hg1 => absurd hg1 hc, Ext.refl _⟩)
    obtain rfl := h23_ hg1
    refine (does_not (ev rfl)).mono ?_; rintro _ _ ⟨rfl, rfl⟩
    exact ⟨fun _ => rfl, Ext.refl _⟩
  refine RW_d _ rfl (fun v => by dsimp only [List.set]; try rfl) (fun u hu hF => ?_) (fun v32 => ?_)
  · have h21_ : v28 = (Bo ((!(rlOk kind)) || β1)) := hF.1
    have h24_ : ((!(rlOk kind)) || β1) = false → v31 = (Bo (!β2)) := hF.2.1
    clear hF
    refine doesG_un rfl ?_
    skip
    obtain rfl := h21_
    refine (does_pick (b := ((!(rlOk kind)) || β1)) (ev rfl) (ev rfl) (ev rfl)).mono ?_; rintro _ _ ⟨rfl, rfl⟩; refine ⟨?_, Ext.refl _⟩; rw [hβ3]; skip
    cases hbb : ((!(rlOk kind)) || β1) <;> simp [hbb] at h24_ ⊢
    all_goals (first | rfl | (subst h24_; rfl) | simp_all)
  refine RW_fin ?_; intro w33 E34 hP35
  obtain ⟨⟨⟨⟨⟨⟨⟨⟨⟨⟨⟨⟨⟨⟨-, -⟩, -⟩, -⟩, -⟩, -⟩, -⟩, -⟩, -⟩, -⟩, -⟩, -⟩, -⟩, -⟩, q36⟩ := hP35
  have X37 := Ext.gr X16 E34
  have q36 : v32 = (Bo β3) := q36
  obtain rfl := q36
  show wpList _ _ _ _ (fr [(Iv kind), (.slice p_nums L_nums.length q_nums), Ud, Ud, (Bo false), (Pt b6 0), (Bo (rlOk kind)), (.tuple #[(.agg #[(Iv ((ruleP kind).num)), (Iv ((ruleP kind).ch)), (Bo ((ruleP kind).ax)), (Iv ((ruleP kind).sg))]), (Bo (rlOk kind))]), (Iv kind), (.tuple #[(.agg #[(Iv ((ruleP kind).num)), (Iv ((ruleP kind).ch)), (Bo ((ruleP kind).ax)), (Iv ((ruleP kind).sg))]), (Bo (rlOk kind))]), (.agg #[(Iv ((ruleP kind).num)), (Iv ((ruleP kind).ch)), (Bo ((ruleP kind).ax)), (Iv ((ruleP kind).sg))]), (Bo (rlOk kind)), v19, v20, v21, v22, v23, v24, v25, v26, v27, v28, v29, v30, v31, (Bo β3), Ud, Ud, Ud, Ud]) _
  refine wpList_nil (hK18 _ _ ?_)
  refine wp_cond_split (t := β3) (ev rfl) (fun c38 => ?_) (fun c38 => ?_)
  · have c38' := c38
    (try simp only [hβ1, hβ2, hβ3] at c38')
    (try simp only [icmp, Bool.and_eq_true, Bool.or_eq_true, Bool.and_eq_false_iff, Bool.or_eq_false_iff, Bool.not_eq_true', Bool.not_eq_false', decide_eq_true_eq, decide_eq_false_iff_not, beq_iff_eq, bne_iff_ne, beq_eq_false_iff_ne, bne_eq_false_iff_eq] at c38')
    refine wp_seq_k fun K39 hK39 => ?_
    refine wp_region_lit ?_
    refine q_is rfl rfl (does_assign (u := (Bo false)) (ev rfl)) (by dsimp only [List.set]; try rfl) ?_
    refine wpList_nil (hK39 _ _ ?_)
    refine wp_ret ?_
    dsimp only [Exit.then, Exit.inBlock]
    refine ret_val (v := (Bo false)) (res_T rfl (slot rfl)) X37 ?_
    try simp only [hβ1, hβ2, hβ3] at c38
    have x40 : (rlOk kind && nodeNums kind L_nums) = false := by first | exact numI_f (by assumption) | exact numI_t (by assumption)
    exact (by first | rfl | rw [x40])
  have c38' := c38
  (try simp only [hβ1, hβ2, hβ3] at c38')
  (try simp only [icmp, Bool.and_eq_true, Bool.or_eq_true, Bool.and_eq_false_iff, Bool.or_eq_false_iff, Bool.not_eq_true', Bool.not_eq_false', decide_eq_true_eq, decide_eq_false_iff_not, beq_iff_eq, bne_iff_ne, beq_eq_false_iff_ne, bne_eq_false_iff_eq] at c38')
  refine wp_skip (hK17 _ _ ?_)
  refine wp_seq_k fun K41 hK41 => ?_
  refine wp_region_lit ?_
  refine q_is rfl rfl (does_move (u := (.slice p_nums L_nums.length q_nums)) (ev rfl)) (by dsimp only [List.set]; try rfl) ?_
  refine q_is rfl rfl (does_makeFunc (u := (.func (.func 39) #[] #[(Pt b6 0)])) (evs rfl) (evs rfl) rfl) (by dsimp only [List.set]; try rfl) ?_
  refine seqd rfl rfl (does_call (args := #[(.slice p_nums L_nums.length q_nums), (.func (.func 39) #[] #[(Pt b6 0)])]) cal38 (evs rfl) (c_slices_ContainsFunc_float32_float32 (.slice p_nums L_nums.length q_nums) L_nums (.func (.func 39) #[] #[(Pt b6 0)]) (fun x => ((ruleP kind).sg == 1 && lssF x) || ((ruleP kind).sg == 2 && leqF x)) _ (Sl.ext hv_nums RF.mono X37) ⟨39, #[], #[(Pt b6 0)], rfl, cal39, fun r u hu' => by simpa using (c_impl_numbersOk_1 r b6 0 [(Iv ((ruleP kind).num)), (Iv ((ruleP kind).ch)), (Bo ((ruleP kind).ax)), (Iv ((ruleP kind).sg))] (ruleP kind) u (Blk.cells ((hB14.ext E34).ext hu')) rfl)⟩)) ?_; rintro _ w43 ⟨E42, rfl⟩
  have X44 := Ext.gr X37 E42
  show wpList _ _ _ _ (fr [(Iv kind), (.slice p_nums L_nums.length q_nums), Ud, Ud, (Bo false), (Pt b6 0), (Bo (rlOk kind)), (.tuple #[(.agg #[(Iv ((ruleP kind).num)), (Iv ((ruleP kind).ch)), (Bo ((ruleP kind).ax)), (Iv ((ruleP kind).sg))]), (Bo (rlOk kind))]), (Iv kind), (.tuple #[(.agg #[(Iv ((ruleP kind).num)), (Iv ((ruleP kind).ch)), (Bo ((ruleP kind).ax)), (Iv ((ruleP kind).sg))]), (Bo (rlOk kind))]), (.agg #[(Iv ((ruleP kind).num)), (Iv ((ruleP kind).ch)), (Bo ((ruleP kind).ax)), (Iv ((ruleP kind).sg))]), (Bo (rlOk kind)), v19, v20, v21, v22, v23, v24, v25, v26, v27, v28, v29, v30, v31, (Bo β3), (.slice p_nums L_nums.length q_nums), (.func (.func 39) #[] #[(Pt b6 0)]), (Bo (L_nums.any (fun x => ((ruleP kind).sg == 1 && lssF x) || ((ruleP kind).sg == 2 && leqF x)))), Ud]) _
  refine q_is rfl rfl (does_not (ev rfl)) (by dsimp only [List.set]; try rfl) ?_
  refine q_is rfl rfl (does_assign (u := (Bo (!(L_nums.any (fun x => ((ruleP kind).sg == 1 && lssF x) || ((ruleP kind).sg == 2 && leqF x)))))) (ev rfl)) (by dsimp only [List.set]; try rfl) ?_
  refine wpList_nil (hK41 _ _ ?_)
  refine wp_ret ?_
  refine ret_val (v := (Bo (!(L_nums.any (fun x => ((ruleP kind).sg == 1 && lssF x) || ((ruleP kind).sg == 2 && leqF x)))))) (res_T rfl (slot rfl)) X44 ?_
  try simp only [hβ1, hβ2, hβ3] at c38
  have x45 : (rlOk kind && nodeNums kind L_nums) = (!(L_nums.any (fun x => ((ruleP kind).sg == 1 && lssF x) || ((ruleP kind).sg == 2 && leqF x)))) := by first | exact numI_f (by assumption) | exact numI_t (by assumption)
  exact (by first | rfl | rw [x45])

/- (*impl.Node).empty$1 -/
theorem c_impl_Node_empty_1 (x : Nat) (w : World) : Gives Try.prog 41 #[(Fl x)] w (fun v w' => v = (Bo (fcmp .neq (ford .f32 (cf .f32 x) (cf .f32 1065353216))))) := by
  refine enter [(Fl x), Ud, Ud, Ud, Ud] Try.func41 rfl Try.ntmps41 rfl ?_
  refine wp_seq_k fun K1 hK1 => ?_
  refine wp_region_lit ?_
  refine q_is (l' := [(Fl x), Ud, (Bo false), Ud, Ud]) rfl rfl (does_assign (u := (Bo false)) (ev rfl)) rfl ?_
  refine wpList_nil (hK1 _ _ ?_)
  refine wp_seq_k fun K2 hK2 => ?_
  refine wp_region_lit ?_
  refine q_is (l' := [(Fl x), Ud, (Bo false), (Fl x), Ud]) rfl rfl (does_move (u := (Fl x)) (ev rfl)) rfl ?_
  refine q_is (l' := [(Fl x), Ud, (Bo false), (Fl x), (Bo (fcmp .neq (ford .f32 (cf .f32 x) (cf .f32 1065353216))))]) rfl rfl (does_fcmp (.inr (.inl rfl)) (ev rfl) (ev rfl)) rfl ?_
  refine q_is (l' := [(Fl x), Ud, (Bo (fcmp .neq (ford .f32 (cf .f32 x) (cf .f32 1065353216)))), (Fl x), (Bo (fcmp .neq (ford .f32 (cf .f32 x) (cf .f32 1065353216))))]) rfl rfl (does_assign (u := (Bo (fcmp .neq (ford .f32 (cf .f32 x) (cf .f32 1065353216))))) (ev rfl)) rfl ?_
  refine wpList_nil (hK2 _ _ ?_)
  refine wp_ret ?_
  refine ret_val (v := (Bo (fcmp .neq (ford .f32 (cf .f32 x) (cf .f32 1065353216))))) (res_T rfl (slot rfl)) (Ext.refl w) ?_
  exact rfl

end Go.Proofs.Ytodelpmhbdaocaa
