/- contracts of functions, each walked once -/
import Derived.Test.YtiagimgdjngnfaaP2
namespace Go.Proofs.Ytiagimgdjngnfaa
open Go Go.RowKit
set_option maxRecDepth 100000
set_option maxHeartbeats 3200000
set_option linter.unusedVariables false
set_option linter.unusedSimpArgs false

/- impl.finite -/
theorem c_impl_finite (xs : Value) (L_xs : List Nat) (w : World) (hv_xs : Sl RF 1 w xs L_xs) : Gives Try.prog 79 #[xs] w (fun v w' => v = (Bo (!L_xs.any (fun x => !finF x)))) := by
  have hlen_xs := Sl.len hv_xs; obtain ⟨p_xs, q_xs, rfl⟩ := Sl.shape hv_xs
  refine enter [(.slice p_xs L_xs.length q_xs), Ud, Ud, Ud, Ud, Ud] Try.func79 rfl Try.ntmps79 rfl ?_
  refine wp_seq_k fun K1 hK1 => ?_
  refine wp_region_lit ?_
  refine q_is (l' := [(.slice p_xs L_xs.length q_xs), Ud, (Bo false), Ud, Ud, Ud]) rfl rfl (does_assign (u := (Bo false)) (ev rfl)) rfl ?_
  refine wpList_nil (hK1 _ _ ?_)
  refine wp_seq_k fun K2 hK2 => ?_
  refine wp_region_lit ?_
  refine q_is (l' := [(.slice p_xs L_xs.length q_xs), Ud, (Bo false), (.slice p_xs L_xs.length q_xs), Ud, Ud]) rfl rfl (does_move (u := (.slice p_xs L_xs.length q_xs)) (ev rfl)) rfl ?_
  refine seqd rfl rfl (does_call (args := #[(.slice p_xs L_xs.length q_xs), (.func (.func 100) #[] #[])]) cal86 (evs rfl) (c_slices_ContainsFunc_float32_float32 (.slice p_xs L_xs.length q_xs) L_xs (.func (.func 100) #[] #[]) (fun x => !finF x) _ hv_xs ⟨100, #[], #[], rfl, cal100, fun r u hu' => by simpa using (c_impl_finite_1 r u)⟩)) ?_; rintro _ w4 ⟨E3, rfl⟩
  have X5 := Ext.gr (Ext.refl w) E3
  show wpList _ _ _ _ (fr [(.slice p_xs L_xs.length q_xs), Ud, (Bo false), (.slice p_xs L_xs.length q_xs), (Bo (L_xs.any (fun x => !finF x))), Ud]) _
  refine q_is (l' := [(.slice p_xs L_xs.length q_xs), Ud, (Bo false), (.slice p_xs L_xs.length q_xs), (Bo (L_xs.any (fun x => !finF x))), (Bo (!(L_xs.any (fun x => !finF x))))]) rfl rfl (does_not (ev rfl)) rfl ?_
  refine q_is (l' := [(.slice p_xs L_xs.length q_xs), Ud, (Bo (!(L_xs.any (fun x => !finF x)))), (.slice p_xs L_xs.length q_xs), (Bo (L_xs.any (fun x => !finF x))), (Bo (!(L_xs.any (fun x => !finF x))))]) rfl rfl (does_assign (u := (Bo (!(L_xs.any (fun x => !finF x))))) (ev rfl)) rfl ?_
  refine wpList_nil (hK2 _ _ ?_)
  refine wp_ret ?_
  refine ret_val (v := (Bo (!(L_xs.any (fun x => !finF x))))) (res_T rfl (slot rfl)) X5 ?_
  have x6 : (!L_xs.any (fun x => !finF x)) = (!(L_xs.any (fun x => !finF x))) := by first | with_reducible rfl | (simp only []; done) | (simp []; done) | rfl
  exact (by first | with_reducible rfl | rw [x6] | rfl)

/- impl.ruleOf -/
theorem c_impl_ruleOf (kind : Int) (w : World) : Gives Try.prog 85 #[(Iv kind)] w (fun v w' => ∃ cs_1 : List Value, v = (.tuple #[(.agg cs_1.toArray), (Bo (rlOk kind))]) ∧ RRuleT w (ruleP kind) cs_1) := by
  refine enter [(Iv kind), Ud, Ud, Ud, Ud, Ud, Ud, Ud, Ud, Ud, Ud, Ud, Ud, Ud, Ud, Ud, Ud, Ud, Ud, Ud, Ud, Ud, Ud, Ud, Ud, Ud, Ud, Ud, Ud, Ud, Ud, Ud, Ud, Ud, Ud, Ud, Ud, Ud, Ud, Ud, Ud, Ud, Ud, Ud, Ud, Ud, Ud, Ud, Ud, Ud, Ud] Try.func85 rfl Try.ntmps85 rfl ?_
  refine wp_seq_k fun K1 hK1 => ?_
  refine wp_region_lit ?_
  refine seqd rfl rfl (does_alloc z141) ?_; rintro _ w6 ⟨b2, rfl, hb3, hB4, E5⟩
  have g7 : w.heap.size ≤ b2 := Nat.le_trans (Below.size (Ext.refl w)) hb3
  change Blk _ _ [(Iv 0), (Iv 0), (Bo false), (Iv 0)] at hB4
  have X8 := Ext.gr (Ext.refl w) E5
  show wpList _ _ _ _ (fr [_, _, _, _, _, _, _, _, _, _, _, _, _, _, _, _, _, _, _, _, _, _, _, _, _, _, _, _, _, _, _, _, _, _, _, _, _, _, _, _, _, _, _, _, _, _, _, _, _, _, _]) _
  refine q_is rfl rfl (does_assign (u := (Bo false)) (ev rfl)) (by dsimp only [List.set]; try rfl) ?_
  refine wpList_nil (hK1 _ _ ?_)
  refine wp_seq_k fun K9 hK9 => ?_
  refine wp_seq_k fun K10 hK10 => ?_
  refine wp_region_lit ?_
  refine q_is rfl rfl (does_move (u := (Iv kind)) (ev rfl)) (by dsimp only [List.set]; try rfl) ?_
  refine wpList_nil (hK10 _ _ ?_)
  refine wp_block ?_
  refine wp_seq_k fun K11 hK11 => ?_
  refine wp_region_lit ?_
  refine q_is rfl rfl (does_icmp (p := kind) (q := 0) (.inl rfl) (ev rfl) (ev rfl)) (by dsimp only [List.set]; try rfl) ?_
  refine q_is rfl rfl (does_assign (u := (Bo (icmp .eql kind 0))) (ev rfl)) (by dsimp only [List.set]; try rfl) ?_
  refine wpList_nil (hK11 _ _ ?_)
  refine wp_cond_split (t := icmp .eql kind 0) (ev rfl) (fun c12 => ?_) (fun c12 => ?_)
  · have c12' := c12
    (try simp only [icmp, Bool.and_eq_true, Bool.or_eq_true, Bool.and_eq_false_iff, Bool.or_eq_false_iff, Bool.not_eq_true', Bool.not_eq_false', decide_eq_true_eq, decide_eq_false_iff_not, beq_iff_eq, bne_iff_ne, beq_eq_false_iff_ne, bne_eq_false_iff_eq] at c12')
    refine wp_seq_k fun K13 hK13 => ?_
    refine wp_region_lit ?_
    refine q_is rfl rfl (does_build (parts' := [(0, (Iv 1)), (1, (Iv 0)), (2, (Bo false)), (3, (Iv 1))]) (cells := #[(Iv 1), (Iv 0), (Bo false), (Iv 1)]) (evp rfl) (by kernel_rfl)) (by dsimp only [List.set]; try rfl) ?_
    refine seqn rfl rfl (does_store (n := 4) (cs := [(Iv 0), (Iv 0), (Bo false), (Iv 0)]) (u := (.agg #[(Iv 1), (Iv 0), (Bo false), (Iv 1)])) (ev rfl) (ev rfl) Try.sizeOf141 rfl hB4 (Nat.le_of_ble_eq_true rfl) rfl) ?_; rintro _ w16 ⟨rfl, W14, hB15⟩
    change Blk _ _ [(Iv 1), (Iv 0), (Bo false), (Iv 1)] at hB15
    have X17 := Below.wr X8 W14 g7
    refine q_is rfl rfl (does_assign (u := (Bo true)) (ev rfl)) (by dsimp only [List.set]; try rfl) ?_
    refine wpList_nil (hK13 _ _ ?_)
    refine wp_ret ?_
    dsimp only [Exit.then, Exit.inBlock]
    refine ret_val (v := (.tuple #[(.agg #[(Iv 1), (Iv 0), (Bo false), (Iv 1)]), (Bo true)])) (res_CT rfl (slot rfl) (run_loadAgg (cs := [(Iv 1), (Iv 0), (Bo false), (Iv 1)]) Try.isAgg141 Try.sizeOf141 (Blk.cells hB15) rfl) (slot rfl)) X17 ?_
    have x18 : (rlOk kind) = true := by first | (simp [ruleP, rlNum, rlCh, rlAx, rlSg, rlOk, inI, icmp, *]; done) | (simp_all [ruleP, rlNum, rlCh, rlAx, rlSg, rlOk, inI, icmp]; done) | (simp only [ruleP, rlNum, rlCh, rlAx, rlSg, rlOk, inI, icmp]; simp_all; omega) | (simp only [ruleP, rlNum, rlCh, rlAx, rlSg, rlOk, inI, icmp]; simp; omega)
    have x19 : (ruleP kind).num = 1 := by first | (simp [ruleP, rlNum, rlCh, rlAx, rlSg, rlOk, inI, icmp, *]; done) | (simp_all [ruleP, rlNum, rlCh, rlAx, rlSg, rlOk, inI, icmp]; done) | (simp only [ruleP, rlNum, rlCh, rlAx, rlSg, rlOk, inI, icmp]; simp_all; omega) | (simp only [ruleP, rlNum, rlCh, rlAx, rlSg, rlOk, inI, icmp]; simp; omega)
    have x20 : (ruleP kind).ch = 0 := by first | (simp [ruleP, rlNum, rlCh, rlAx, rlSg, rlOk, inI, icmp, *]; done) | (simp_all [ruleP, rlNum, rlCh, rlAx, rlSg, rlOk, inI, icmp]; done) | (simp only [ruleP, rlNum, rlCh, rlAx, rlSg, rlOk, inI, icmp]; simp_all; omega) | (simp only [ruleP, rlNum, rlCh, rlAx, rlSg, rlOk, inI, icmp]; simp; omega)
    have x21 : (ruleP kind).ax = false := by first | (simp [ruleP, rlNum, rlCh, rlAx, rlSg, rlOk, inI, icmp, *]; done) | (simp_all [ruleP, rlNum, rlCh, rlAx, rlSg, rlOk, inI, icmp]; done) | (simp only [ruleP, rlNum, rlCh, rlAx, rlSg, rlOk, inI, icmp]; simp_all; omega) | (simp only [ruleP, rlNum, rlCh, rlAx, rlSg, rlOk, inI, icmp]; simp; omega)
    have x22 : (ruleP kind).sg = 1 := by first | (simp [ruleP, rlNum, rlCh, rlAx, rlSg, rlOk, inI, icmp, *]; done) | (simp_all [ruleP, rlNum, rlCh, rlAx, rlSg, rlOk, inI, icmp]; done) | (simp only [ruleP, rlNum, rlCh, rlAx, rlSg, rlOk, inI, icmp]; simp_all; omega) | (simp only [ruleP, rlNum, rlCh, rlAx, rlSg, rlOk, inI, icmp]; simp; omega)
    exact ⟨[(Iv 1), (Iv 0), (Bo false), (Iv 1)], (by first | with_reducible rfl | rw [x18] | rfl), (by first | with_reducible rfl | (show _ = _; simp only [x19, x20, x21, x22]) | rfl)⟩
  have c12' := c12
  (try simp only [icmp, Bool.and_eq_true, Bool.or_eq_true, Bool.and_eq_false_iff, Bool.or_eq_false_iff, Bool.not_eq_true', Bool.not_eq_false', decide_eq_true_eq, decide_eq_false_iff_not, beq_iff_eq, bne_iff_ne, beq_eq_false_iff_ne, bne_eq_false_iff_eq] at c12')
  refine wp_seq_k fun K23 hK23 => ?_
  refine wp_region_lit ?_
  refine q_is rfl rfl (does_icmp (p := kind) (q := 1) (.inl rfl) (ev rfl) (ev rfl)) (by dsimp only [List.set]; try rfl) ?_
  refine q_is rfl rfl (does_assign (u := (Bo (icmp .eql kind 1))) (ev rfl)) (by dsimp only [List.set]; try rfl) ?_
  refine wpList_nil (hK23 _ _ ?_)
  refine wp_cond_split (t := icmp .eql kind 1) (ev rfl) (fun c24 => ?_) (fun c24 => ?_)
  · have c24' := c24
    (try simp only [icmp, Bool.and_eq_true, Bool.or_eq_true, Bool.and_eq_false_iff, Bool.or_eq_false_iff, Bool.not_eq_true', Bool.not_eq_false', decide_eq_true_eq, decide_eq_false_iff_not, beq_iff_eq, bne_iff_ne, beq_eq_false_iff_ne, bne_eq_false_iff_eq] at c24')
    refine wp_seq_k fun K25 hK25 => ?_
    refine wp_region_lit ?_
    refine q_is rfl rfl (does_build (parts' := [(0, (Iv 3)), (1, (Iv 0)), (2, (Bo false)), (3, (Iv 1))]) (cells := #[(Iv 3), (Iv 0), (Bo false), (Iv 1)]) (evp rfl) (by kernel_rfl)) (by dsimp only [List.set]; try rfl) ?_
    refine seqn rfl rfl (does_store (n := 4) (cs := [(Iv 0), (Iv 0), (Bo false), (Iv 0)]) (u := (.agg #[(Iv 3), (Iv 0), (Bo false), (Iv 1)])) (ev rfl) (ev rfl) Try.sizeOf141 rfl hB4 (Nat.le_of_ble_eq_true rfl) rfl) ?_; rintro _ w28 ⟨rfl, W26, hB27⟩
    change Blk _ _ [(Iv 3), (Iv 0), (Bo false), (Iv 1)] at hB27
    have X29 := Below.wr X8 W26 g7
    refine q_is rfl rfl (does_assign (u := (Bo true)) (ev rfl)) (by dsimp only [List.set]; try rfl) ?_
    refine wpList_nil (hK25 _ _ ?_)
    refine wp_ret ?_
    dsimp only [Exit.then, Exit.inBlock]
    refine ret_val (v := (.tuple #[(.agg #[(Iv 3), (Iv 0), (Bo false), (Iv 1)]), (Bo true)])) (res_CT rfl (slot rfl) (run_loadAgg (cs := [(Iv 3), (Iv 0), (Bo false), (Iv 1)]) Try.isAgg141 Try.sizeOf141 (Blk.cells hB27) rfl) (slot rfl)) X29 ?_
    have x30 : (rlOk kind) = true := by first | (simp [ruleP, rlNum, rlCh, rlAx, rlSg, rlOk, inI, icmp, *]; done) | (simp_all [ruleP, rlNum, rlCh, rlAx, rlSg, rlOk, inI, icmp]; done) | (simp only [ruleP, rlNum, rlCh, rlAx, rlSg, rlOk, inI, icmp]; simp_all; omega) | (simp only [ruleP, rlNum, rlCh, rlAx, rlSg, rlOk, inI, icmp]; simp; omega)
    have x31 : (ruleP kind).num = 3 := by first | (simp [ruleP, rlNum, rlCh, rlAx, rlSg, rlOk, inI, icmp, *]; done) | (simp_all [ruleP, rlNum, rlCh, rlAx, rlSg, rlOk, inI, icmp]; done) | (simp only [ruleP, rlNum, rlCh, rlAx, rlSg, rlOk, inI, icmp]; simp_all; omega) | (simp only [ruleP, rlNum, rlCh, rlAx, rlSg, rlOk, inI, icmp]; simp; omega)
    have x32 : (ruleP kind).ch = 0 := by first | (simp [ruleP, rlNum, rlCh, rlAx, rlSg, rlOk, inI, icmp, *]; done) | (simp_all [ruleP, rlNum, rlCh, rlAx, rlSg, rlOk, inI, icmp]; done) | (simp only [ruleP, rlNum, rlCh, rlAx, rlSg, rlOk, inI, icmp]; simp_all; omega) | (simp only [ruleP, rlNum, rlCh, rlAx, rlSg, rlOk, inI, icmp]; simp; omega)
    have x33 : (ruleP kind).ax = false := by first | (simp [ruleP, rlNum, rlCh, rlAx, rlSg, rlOk, inI, icmp, *]; done) | (simp_all [ruleP, rlNum, rlCh, rlAx, rlSg, rlOk, inI, icmp]; done) | (simp only [ruleP, rlNum, rlCh, rlAx, rlSg, rlOk, inI, icmp]; simp_all; omega) | (simp only [ruleP, rlNum, rlCh, rlAx, rlSg, rlOk, inI, icmp]; simp; omega)
    have x34 : (ruleP kind).sg = 1 := by first | (simp [ruleP, rlNum, rlCh, rlAx, rlSg, rlOk, inI, icmp, *]; done) | (simp_all [ruleP, rlNum, rlCh, rlAx, rlSg, rlOk, inI, icmp]; done) | (simp only [ruleP, rlNum, rlCh, rlAx, rlSg, rlOk, inI, icmp]; simp_all; omega) | (simp only [ruleP, rlNum, rlCh, rlAx, rlSg, rlOk, inI, icmp]; simp; omega)
    exact ⟨[(Iv 3), (Iv 0), (Bo false), (Iv 1)], (by first | with_reducible rfl | rw [x30] | rfl), (by first | with_reducible rfl | (show _ = _; simp only [x31, x32, x33, x34]) | rfl)⟩
  have c24' := c24
  (try simp only [icmp, Bool.and_eq_true, Bool.or_eq_true, Bool.and_eq_false_iff, Bool.or_eq_false_iff, Bool.not_eq_true', Bool.not_eq_false', decide_eq_true_eq, decide_eq_false_iff_not, beq_iff_eq, bne_iff_ne, beq_eq_false_iff_ne, bne_eq_false_iff_eq] at c24')
  refine wp_seq_k fun K35 hK35 => ?_
  refine wp_seq_k fun K36 hK36 => ?_
  refine wp_region_lit ?_
  refine q_is rfl rfl (does_icmp (p := kind) (q := 2) (.inl rfl) (ev rfl) (ev rfl)) (by dsimp only [List.set]; try rfl) ?_
  refine q_is rfl rfl (does_assign (u := (Bo (icmp .eql kind 2))) (ev rfl)) (by dsimp only [List.set]; try rfl) ?_
  refine wpList_nil (hK36 _ _ ?_)
  refine wp_cond_split (t := icmp .eql kind 2) (ev rfl) (fun c37 => ?_) (fun c37 => ?_)
  · have c37' := c37
    (try simp only [icmp, Bool.and_eq_true, Bool.or_eq_true, Bool.and_eq_false_iff, Bool.or_eq_false_iff, Bool.not_eq_true', Bool.not_eq_false', decide_eq_true_eq, decide_eq_false_iff_not, beq_iff_eq, bne_iff_ne, beq_eq_false_iff_ne, bne_eq_false_iff_eq] at c37')
    refine wp_skip (hK35 _ _ ?_)
    refine wp_cond_true ((ev (rfl : evl _ _ = .bool (icmp .eql kind 2))).trans (congrArg Value.bool c37)) ?_
    refine wp_seq_k fun K38 hK38 => ?_
    refine wp_region_lit ?_
    refine q_is rfl rfl (does_build (parts' := [(0, (Iv 2)), (1, (Iv 0)), (2, (Bo false)), (3, (Iv 1))]) (cells := #[(Iv 2), (Iv 0), (Bo false), (Iv 1)]) (evp rfl) (by kernel_rfl)) (by dsimp only [List.set]; try rfl) ?_
    refine seqn rfl rfl (does_store (n := 4) (cs := [(Iv 0), (Iv 0), (Bo false), (Iv 0)]) (u := (.agg #[(Iv 2), (Iv 0), (Bo false), (Iv 1)])) (ev rfl) (ev rfl) Try.sizeOf141 rfl hB4 (Nat.le_of_ble_eq_true rfl) rfl) ?_; rintro _ w41 ⟨rfl, W39, hB40⟩
    change Blk _ _ [(Iv 2), (Iv 0), (Bo false), (Iv 1)] at hB40
    have X42 := Below.wr X8 W39 g7
    refine q_is rfl rfl (does_assign (u := (Bo true)) (ev rfl)) (by dsimp only [List.set]; try rfl) ?_
    refine wpList_nil (hK38 _ _ ?_)
    refine wp_ret ?_
    dsimp only [Exit.then, Exit.inBlock]
    refine ret_val (v := (.tuple #[(.agg #[(Iv 2), (Iv 0), (Bo false), (Iv 1)]), (Bo true)])) (res_CT rfl (slot rfl) (run_loadAgg (cs := [(Iv 2), (Iv 0), (Bo false), (Iv 1)]) Try.isAgg141 Try.sizeOf141 (Blk.cells hB40) rfl) (slot rfl)) X42 ?_
    have x43 : (rlOk kind) = true := by first | (simp [ruleP, rlNum, rlCh, rlAx, rlSg, rlOk, inI, icmp, *]; done) | (simp_all [ruleP, rlNum, rlCh, rlAx, rlSg, rlOk, inI, icmp]; done) | (simp only [ruleP, rlNum, rlCh, rlAx, rlSg, rlOk, inI, icmp]; simp_all; omega) | (simp only [ruleP, rlNum, rlCh, rlAx, rlSg, rlOk, inI, icmp]; simp; omega)
    have x44 : (ruleP kind).num = 2 := by first | (simp [ruleP, rlNum, rlCh, rlAx, rlSg, rlOk, inI, icmp, *]; done) | (simp_all [ruleP, rlNum, rlCh, rlAx, rlSg, rlOk, inI, icmp]; done) | (simp only [ruleP, rlNum, rlCh, rlAx, rlSg, rlOk, inI, icmp]; simp_all; omega) | (simp only [ruleP, rlNum, rlCh, rlAx, rlSg, rlOk, inI, icmp]; simp; omega)
    have x45 : (ruleP kind).ch = 0 := by first | (simp [ruleP, rlNum, rlCh, rlAx, rlSg, rlOk, inI, icmp, *]; done) | (simp_all [ruleP, rlNum, rlCh, rlAx, rlSg, rlOk, inI, icmp]; done) | (simp only [ruleP, rlNum, rlCh, rlAx, rlSg, rlOk, inI, icmp]; simp_all; omega) | (simp only [ruleP, rlNum, rlCh, rlAx, rlSg, rlOk, inI, icmp]; simp; omega)
    have x46 : (ruleP kind).ax = false := by first | (simp [ruleP, rlNum, rlCh, rlAx, rlSg, rlOk, inI, icmp, *]; done) | (simp_all [ruleP, rlNum, rlCh, rlAx, rlSg, rlOk, inI, icmp]; done) | (simp only [ruleP, rlNum, rlCh, rlAx, rlSg, rlOk, inI, icmp]; simp_all; omega) | (simp only [ruleP, rlNum, rlCh, rlAx, rlSg, rlOk, inI, icmp]; simp; omega)
    have x47 : (ruleP kind).sg = 1 := by first | (simp [ruleP, rlNum, rlCh, rlAx, rlSg, rlOk, inI, icmp, *]; done) | (simp_all [ruleP, rlNum, rlCh, rlAx, rlSg, rlOk, inI, icmp]; done) | (simp only [ruleP, rlNum, rlCh, rlAx, rlSg, rlOk, inI, icmp]; simp_all; omega) | (simp only [ruleP, rlNum, rlCh, rlAx, rlSg, rlOk, inI, icmp]; simp; omega)
    exact ⟨[(Iv 2), (Iv 0), (Bo false), (Iv 1)], (by first | with_reducible rfl | rw [x43] | rfl), (by first | with_reducible rfl | (show _ = _; simp only [x44, x45, x46, x47]) | rfl)⟩
  have c37' := c37
  (try simp only [icmp, Bool.and_eq_true, Bool.or_eq_true, Bool.and_eq_false_iff, Bool.or_eq_false_iff, Bool.not_eq_true', Bool.not_eq_false', decide_eq_true_eq, decide_eq_false_iff_not, beq_iff_eq, bne_iff_ne, beq_eq_false_iff_ne, bne_eq_false_iff_eq] at c37')
  refine wp_region_lit ?_
  refine q_is rfl rfl (does_icmp (p := kind) (q := 3) (.inl rfl) (ev rfl) (ev rfl)) (by dsimp only [List.set]; try rfl) ?_
  refine q_is rfl rfl (does_assign (u := (Bo (icmp .eql kind 3))) (ev rfl)) (by dsimp only [List.set]; try rfl) ?_
  refine wpList_nil (hK35 _ _ ?_)
  refine wp_cond_split (t := icmp .eql kind 3) (ev rfl) (fun c48 => ?_) (fun c48 => ?_)
  · have c48' := c48
    (try simp only [icmp, Bool.and_eq_true, Bool.or_eq_true, Bool.and_eq_false_iff, Bool.or_eq_false_iff, Bool.not_eq_true', Bool.not_eq_false', decide_eq_true_eq, decide_eq_false_iff_not, beq_iff_eq, bne_iff_ne, beq_eq_false_iff_ne, bne_eq_false_iff_eq] at c48')
    refine wp_seq_k fun K49 hK49 => ?_
    refine wp_region_lit ?_
    refine q_is rfl rfl (does_build (parts' := [(0, (Iv 2)), (1, (Iv 0)), (2, (Bo false)), (3, (Iv 1))]) (cells := #[(Iv 2), (Iv 0), (Bo false), (Iv 1)]) (evp rfl) (by kernel_rfl)) (by dsimp only [List.set]; try rfl) ?_
    refine seqn rfl rfl (does_store (n := 4) (cs := [(Iv 0), (Iv 0), (Bo false), (Iv 0)]) (u := (.agg #[(Iv 2), (Iv 0), (Bo false), (Iv 1)])) (ev rfl) (ev rfl) Try.sizeOf141 rfl hB4 (Nat.le_of_ble_eq_true rfl) rfl) ?_; rintro _ w52 ⟨rfl, W50, hB51⟩
    change Blk _ _ [(Iv 2), (Iv 0), (Bo false), (Iv 1)] at hB51
    have X53 := Below.wr X8 W50 g7
    refine q_is rfl rfl (does_assign (u := (Bo true)) (ev rfl)) (by dsimp only [List.set]; try rfl) ?_
    refine wpList_nil (hK49 _ _ ?_)
    refine wp_ret ?_
    dsimp only [Exit.then, Exit.inBlock]
    refine ret_val (v := (.tuple #[(.agg #[(Iv 2), (Iv 0), (Bo false), (Iv 1)]), (Bo true)])) (res_CT rfl (slot rfl) (run_loadAgg (cs := [(Iv 2), (Iv 0), (Bo false), (Iv 1)]) Try.isAgg141 Try.sizeOf141 (Blk.cells hB51) rfl) (slot rfl)) X53 ?_
    have x54 : (rlOk kind) = true := by first | (simp [ruleP, rlNum, rlCh, rlAx, rlSg, rlOk, inI, icmp, *]; done) | (simp_all [ruleP, rlNum, rlCh, rlAx, rlSg, rlOk, inI, icmp]; done) | (simp only [ruleP, rlNum, rlCh, rlAx, rlSg, rlOk, inI, icmp]; simp_all; omega) | (simp only [ruleP, rlNum, rlCh, rlAx, rlSg, rlOk, inI, icmp]; simp; omega)
    have x55 : (ruleP kind).num = 2 := by first | (simp [ruleP, rlNum, rlCh, rlAx, rlSg, rlOk, inI, icmp, *]; done) | (simp_all [ruleP, rlNum, rlCh, rlAx, rlSg, rlOk, inI, icmp]; done) | (simp only [ruleP, rlNum, rlCh, rlAx, rlSg, rlOk, inI, icmp]; simp_all; omega) | (simp only [ruleP, rlNum, rlCh, rlAx, rlSg, rlOk, inI, icmp]; simp; omega)
    have x56 : (ruleP kind).ch = 0 := by first | (simp [ruleP, rlNum, rlCh, rlAx, rlSg, rlOk, inI, icmp, *]; done) | (simp_all [ruleP, rlNum, rlCh, rlAx, rlSg, rlOk, inI, icmp]; done) | (simp only [ruleP, rlNum, rlCh, rlAx, rlSg, rlOk, inI, icmp]; simp_all; omega) | (simp only [ruleP, rlNum, rlCh, rlAx, rlSg, rlOk, inI, icmp]; simp; omega)
    have x57 : (ruleP kind).ax = false := by first | (simp [ruleP, rlNum, rlCh, rlAx, rlSg, rlOk, inI, icmp, *]; done) | (simp_all [ruleP, rlNum, rlCh, rlAx, rlSg, rlOk, inI, icmp]; done) | (simp only [ruleP, rlNum, rlCh, rlAx, rlSg, rlOk, inI, icmp]; simp_all; omega) | (simp only [ruleP, rlNum, rlCh, rlAx, rlSg, rlOk, inI, icmp]; simp; omega)
    have x58 : (ruleP kind).sg = 1 := by first | (simp [ruleP, rlNum, rlCh, rlAx, rlSg, rlOk, inI, icmp, *]; done) | (simp_all [ruleP, rlNum, rlCh, rlAx, rlSg, rlOk, inI, icmp]; done) | (simp only [ruleP, rlNum, rlCh, rlAx, rlSg, rlOk, inI, icmp]; simp_all; omega) | (simp only [ruleP, rlNum, rlCh, rlAx, rlSg, rlOk, inI, icmp]; simp; omega)
    exact ⟨[(Iv 2), (Iv 0), (Bo false), (Iv 1)], (by first | with_reducible rfl | rw [x54] | rfl), (by first | with_reducible rfl | (show _ = _; simp only [x55, x56, x57, x58]) | rfl)⟩
  have c48' := c48
  (try simp only [icmp, Bool.and_eq_true, Bool.or_eq_true, Bool.and_eq_false_iff, Bool.or_eq_false_iff, Bool.not_eq_true', Bool.not_eq_false', decide_eq_true_eq, decide_eq_false_iff_not, beq_iff_eq, bne_iff_ne, beq_eq_false_iff_ne, bne_eq_false_iff_eq] at c48')
  refine wp_seq_k fun K59 hK59 => ?_
  refine wp_region_lit ?_
  refine q_is rfl rfl (does_icmp (p := kind) (q := 4) (.inl rfl) (ev rfl) (ev rfl)) (by dsimp only [List.set]; try rfl) ?_
  refine q_is rfl rfl (does_assign (u := (Bo (icmp .eql kind 4))) (ev rfl)) (by dsimp only [List.set]; try rfl) ?_
  refine wpList_nil (hK59 _ _ ?_)
  refine wp_cond_split (t := icmp .eql kind 4) (ev rfl) (fun c60 => ?_) (fun c60 => ?_)
  · have c60' := c60
    (try simp only [icmp, Bool.and_eq_true, Bool.or_eq_true, Bool.and_eq_false_iff, Bool.or_eq_false_iff, Bool.not_eq_true', Bool.not_eq_false', decide_eq_true_eq, decide_eq_false_iff_not, beq_iff_eq, bne_iff_ne, beq_eq_false_iff_ne, bne_eq_false_iff_eq] at c60')
    refine wp_seq_k fun K61 hK61 => ?_
    refine wp_region_lit ?_
    refine q_is rfl rfl (does_build (parts' := [(0, (Iv 4)), (1, (Iv 0)), (2, (Bo false)), (3, (Iv 0))]) (cells := #[(Iv 4), (Iv 0), (Bo false), (Iv 0)]) (evp rfl) (by kernel_rfl)) (by dsimp only [List.set]; try rfl) ?_
    refine seqn rfl rfl (does_store (n := 4) (cs := [(Iv 0), (Iv 0), (Bo false), (Iv 0)]) (u := (.agg #[(Iv 4), (Iv 0), (Bo false), (Iv 0)])) (ev rfl) (ev rfl) Try.sizeOf141 rfl hB4 (Nat.le_of_ble_eq_true rfl) rfl) ?_; rintro _ w64 ⟨rfl, W62, hB63⟩
    change Blk _ _ [(Iv 4), (Iv 0), (Bo false), (Iv 0)] at hB63
    have X65 := Below.wr X8 W62 g7
    refine q_is rfl rfl (does_assign (u := (Bo true)) (ev rfl)) (by dsimp only [List.set]; try rfl) ?_
    refine wpList_nil (hK61 _ _ ?_)
    refine wp_ret ?_
    dsimp only [Exit.then, Exit.inBlock]
    refine ret_val (v := (.tuple #[(.agg #[(Iv 4), (Iv 0), (Bo false), (Iv 0)]), (Bo true)])) (res_CT rfl (slot rfl) (run_loadAgg (cs := [(Iv 4), (Iv 0), (Bo false), (Iv 0)]) Try.isAgg141 Try.sizeOf141 (Blk.cells hB63) rfl) (slot rfl)) X65 ?_
    have x66 : (rlOk kind) = true := by first | (simp [ruleP, rlNum, rlCh, rlAx, rlSg, rlOk, inI, icmp, *]; done) | (simp_all [ruleP, rlNum, rlCh, rlAx, rlSg, rlOk, inI, icmp]; done) | (simp only [ruleP, rlNum, rlCh, rlAx, rlSg, rlOk, inI, icmp]; simp_all; omega) | (simp only [ruleP, rlNum, rlCh, rlAx, rlSg, rlOk, inI, icmp]; simp; omega)
    have x67 : (ruleP kind).num = 4 := by first | (simp [ruleP, rlNum, rlCh, rlAx, rlSg, rlOk, inI, icmp, *]; done) | (simp_all [ruleP, rlNum, rlCh, rlAx, rlSg, rlOk, inI, icmp]; done) | (simp only [ruleP, rlNum, rlCh, rlAx, rlSg, rlOk, inI, icmp]; simp_all; omega) | (simp only [ruleP, rlNum, rlCh, rlAx, rlSg, rlOk, inI, icmp]; simp; omega)
    have x68 : (ruleP kind).ch = 0 := by first | (simp [ruleP, rlNum, rlCh, rlAx, rlSg, rlOk, inI, icmp, *]; done) | (simp_all [ruleP, rlNum, rlCh, rlAx, rlSg, rlOk, inI, icmp]; done) | (simp only [ruleP, rlNum, rlCh, rlAx, rlSg, rlOk, inI, icmp]; simp_all; omega) | (simp only [ruleP, rlNum, rlCh, rlAx, rlSg, rlOk, inI, icmp]; simp; omega)
    have x69 : (ruleP kind).ax = false := by first | (simp [ruleP, rlNum, rlCh, rlAx, rlSg, rlOk, inI, icmp, *]; done) | (simp_all [ruleP, rlNum, rlCh, rlAx, rlSg, rlOk, inI, icmp]; done) | (simp only [ruleP, rlNum, rlCh, rlAx, rlSg, rlOk, inI, icmp]; simp_all; omega) | (simp only [ruleP, rlNum, rlCh, rlAx, rlSg, rlOk, inI, icmp]; simp; omega)
    have x70 : (ruleP kind).sg = 0 := by first | (simp [ruleP, rlNum, rlCh, rlAx, rlSg, rlOk, inI, icmp, *]; done) | (simp_all [ruleP, rlNum, rlCh, rlAx, rlSg, rlOk, inI, icmp]; done) | (simp only [ruleP, rlNum, rlCh, rlAx, rlSg, rlOk, inI, icmp]; simp_all; omega) | (simp only [ruleP, rlNum, rlCh, rlAx, rlSg, rlOk, inI, icmp]; simp; omega)
    exact ⟨[(Iv 4), (Iv 0), (Bo false), (Iv 0)], (by first | with_reducible rfl | rw [x66] | rfl), (by first | with_reducible rfl | (show _ = _; simp only [x67, x68, x69, x70]) | rfl)⟩
  have c60' := c60
  (try simp only [icmp, Bool.and_eq_true, Bool.or_eq_true, Bool.and_eq_false_iff, Bool.or_eq_false_iff, Bool.not_eq_true', Bool.not_eq_false', decide_eq_true_eq, decide_eq_false_iff_not, beq_iff_eq, bne_iff_ne, beq_eq_false_iff_ne, bne_eq_false_iff_eq] at c60')
  refine wp_seq_k fun K71 hK71 => ?_
  refine wp_seq_k fun K72 hK72 => ?_
  refine wp_region_lit ?_
  refine q_is rfl rfl (does_icmp (p := kind) (q := 5) (.inl rfl) (ev rfl) (ev rfl)) (by dsimp only [List.set]; try rfl) ?_
  refine q_is rfl rfl (does_assign (u := (Bo (icmp .eql kind 5))) (ev rfl)) (by dsimp only [List.set]; try rfl) ?_
  refine wpList_nil (hK72 _ _ ?_)
  refine wp_cond_split (t := icmp .eql kind 5) (ev rfl) (fun c73 => ?_) (fun c73 => ?_)
  · have c73' := c73
    (try simp only [icmp, Bool.and_eq_true, Bool.or_eq_true, Bool.and_eq_false_iff, Bool.or_eq_false_iff, Bool.not_eq_true', Bool.not_eq_false', decide_eq_true_eq, decide_eq_false_iff_not, beq_iff_eq, bne_iff_ne, beq_eq_false_iff_ne, bne_eq_false_iff_eq] at c73')
    refine wp_skip (hK71 _ _ ?_)
    refine wp_cond_true ((ev (rfl : evl _ _ = .bool (icmp .eql kind 5))).trans (congrArg Value.bool c73)) ?_
    refine wp_seq_k fun K74 hK74 => ?_
    refine wp_region_lit ?_
    refine q_is rfl rfl (does_build (parts' := [(0, (Iv 0)), (1, (Iv 2)), (2, (Bo false)), (3, (Iv 0))]) (cells := #[(Iv 0), (Iv 2), (Bo false), (Iv 0)]) (evp rfl) (by kernel_rfl)) (by dsimp only [List.set]; try rfl) ?_
    refine seqn rfl rfl (does_store (n := 4) (cs := [(Iv 0), (Iv 0), (Bo false), (Iv 0)]) (u := (.agg #[(Iv 0), (Iv 2), (Bo false), (Iv 0)])) (ev rfl) (ev rfl) Try.sizeOf141 rfl hB4 (Nat.le_of_ble_eq_true rfl) rfl) ?_; rintro _ w77 ⟨rfl, W75, hB76⟩
    change Blk _ _ [(Iv 0), (Iv 2), (Bo false), (Iv 0)] at hB76
    have X78 := Below.wr X8 W75 g7
    refine q_is rfl rfl (does_assign (u := (Bo true)) (ev rfl)) (by dsimp only [List.set]; try rfl) ?_
    refine wpList_nil (hK74 _ _ ?_)
    refine wp_ret ?_
    dsimp only [Exit.then, Exit.inBlock]
    refine ret_val (v := (.tuple #[(.agg #[(Iv 0), (Iv 2), (Bo false), (Iv 0)]), (Bo true)])) (res_CT rfl (slot rfl) (run_loadAgg (cs := [(Iv 0), (Iv 2), (Bo false), (Iv 0)]) Try.isAgg141 Try.sizeOf141 (Blk.cells hB76) rfl) (slot rfl)) X78 ?_
    have x79 : (rlOk kind) = true := by first | (simp [ruleP, rlNum, rlCh, rlAx, rlSg, rlOk, inI, icmp, *]; done) | (simp_all [ruleP, rlNum, rlCh, rlAx, rlSg, rlOk, inI, icmp]; done) | (simp only [ruleP, rlNum, rlCh, rlAx, rlSg, rlOk, inI, icmp]; simp_all; omega) | (simp only [ruleP, rlNum, rlCh, rlAx, rlSg, rlOk, inI, icmp]; simp; omega)
    have x80 : (ruleP kind).num = 0 := by first | (simp [ruleP, rlNum, rlCh, rlAx, rlSg, rlOk, inI, icmp, *]; done) | (simp_all [ruleP, rlNum, rlCh, rlAx, rlSg, rlOk, inI, icmp]; done) | (simp only [ruleP, rlNum, rlCh, rlAx, rlSg, rlOk, inI, icmp]; simp_all; omega) | (simp only [ruleP, rlNum, rlCh, rlAx, rlSg, rlOk, inI, icmp]; simp; omega)
    have x81 : (ruleP kind).ch = 2 := by first | (simp [ruleP, rlNum, rlCh, rlAx, rlSg, rlOk, inI, icmp, *]; done) | (simp_all [ruleP, rlNum, rlCh, rlAx, rlSg, rlOk, inI, icmp]; done) | (simp only [ruleP, rlNum, rlCh, rlAx, rlSg, rlOk, inI, icmp]; simp_all; omega) | (simp only [ruleP, rlNum, rlCh, rlAx, rlSg, rlOk, inI, icmp]; simp; omega)
    have x82 : (ruleP kind).ax = false := by first | (simp [ruleP, rlNum, rlCh, rlAx, rlSg, rlOk, inI, icmp, *]; done) | (simp_all [ruleP, rlNum, rlCh, rlAx, rlSg, rlOk, inI, icmp]; done) | (simp only [ruleP, rlNum, rlCh, rlAx, rlSg, rlOk, inI, icmp]; simp_all; omega) | (simp only [ruleP, rlNum, rlCh, rlAx, rlSg, rlOk, inI, icmp]; simp; omega)
    have x83 : (ruleP kind).sg = 0 := by first | (simp [ruleP, rlNum, rlCh, rlAx, rlSg, rlOk, inI, icmp, *]; done) | (simp_all [ruleP, rlNum, rlCh, rlAx, rlSg, rlOk, inI, icmp]; done) | (simp only [ruleP, rlNum, rlCh, rlAx, rlSg, rlOk, inI, icmp]; simp_all; omega) | (simp only [ruleP, rlNum, rlCh, rlAx, rlSg, rlOk, inI, icmp]; simp; omega)
    exact ⟨[(Iv 0), (Iv 2), (Bo false), (Iv 0)], (by first | with_reducible rfl | rw [x79] | rfl), (by first | with_reducible rfl | (show _ = _; simp only [x80, x81, x82, x83]) | rfl)⟩
  have c73' := c73
  (try simp only [icmp, Bool.and_eq_true, Bool.or_eq_true, Bool.and_eq_false_iff, Bool.or_eq_false_iff, Bool.not_eq_true', Bool.not_eq_false', decide_eq_true_eq, decide_eq_false_iff_not, beq_iff_eq, bne_iff_ne, beq_eq_false_iff_ne, bne_eq_false_iff_eq] at c73')
  refine wp_seq_k fun K84 hK84 => ?_
  refine wp_region_lit ?_
  refine q_is rfl rfl (does_icmp (p := kind) (q := 6) (.inl rfl) (ev rfl) (ev rfl)) (by dsimp only [List.set]; try rfl) ?_
  refine q_is rfl rfl (does_assign (u := (Bo (icmp .eql kind 6))) (ev rfl)) (by dsimp only [List.set]; try rfl) ?_
  refine wpList_nil (hK84 _ _ ?_)
  refine wp_cond_split (t := icmp .eql kind 6) (ev rfl) (fun c85 => ?_) (fun c85 => ?_)
  · have c85' := c85
    (try simp only [icmp, Bool.and_eq_true, Bool.or_eq_true, Bool.and_eq_false_iff, Bool.or_eq_false_iff, Bool.not_eq_true', Bool.not_eq_false', decide_eq_true_eq, decide_eq_false_iff_not, beq_iff_eq, bne_iff_ne, beq_eq_false_iff_ne, bne_eq_false_iff_eq] at c85')
    refine wp_skip (hK71 _ _ ?_)
    refine wp_cond_true ((ev (rfl : evl _ _ = .bool (icmp .eql kind 6))).trans (congrArg Value.bool c85)) ?_
    refine wp_seq_k fun K86 hK86 => ?_
    refine wp_region_lit ?_
    refine q_is rfl rfl (does_build (parts' := [(0, (Iv 0)), (1, (Iv 2)), (2, (Bo false)), (3, (Iv 0))]) (cells := #[(Iv 0), (Iv 2), (Bo false), (Iv 0)]) (evp rfl) (by kernel_rfl)) (by dsimp only [List.set]; try rfl) ?_
    refine seqn rfl rfl (does_store (n := 4) (cs := [(Iv 0), (Iv 0), (Bo false), (Iv 0)]) (u := (.agg #[(Iv 0), (Iv 2), (Bo false), (Iv 0)])) (ev rfl) (ev rfl) Try.sizeOf141 rfl hB4 (Nat.le_of_ble_eq_true rfl) rfl) ?_; rintro _ w89 ⟨rfl, W87, hB88⟩
    change Blk _ _ [(Iv 0), (Iv 2), (Bo false), (Iv 0)] at hB88
    have X90 := Below.wr X8 W87 g7
    refine q_is rfl rfl (does_assign (u := (Bo true)) (ev rfl)) (by dsimp only [List.set]; try rfl) ?_
    refine wpList_nil (hK86 _ _ ?_)
    refine wp_ret ?_
    dsimp only [Exit.then, Exit.inBlock]
    refine ret_val (v := (.tuple #[(.agg #[(Iv 0), (Iv 2), (Bo false), (Iv 0)]), (Bo true)])) (res_CT rfl (slot rfl) (run_loadAgg (cs := [(Iv 0), (Iv 2), (Bo false), (Iv 0)]) Try.isAgg141 Try.sizeOf141 (Blk.cells hB88) rfl) (slot rfl)) X90 ?_
    have x91 : (rlOk kind) = true := by first | (simp [ruleP, rlNum, rlCh, rlAx, rlSg, rlOk, inI, icmp, *]; done) | (simp_all [ruleP, rlNum, rlCh, rlAx, rlSg, rlOk, inI, icmp]; done) | (simp only [ruleP, rlNum, rlCh, rlAx, rlSg, rlOk, inI, icmp]; simp_all; omega) | (simp only [ruleP, rlNum, rlCh, rlAx, rlSg, rlOk, inI, icmp]; simp; omega)
    have x92 : (ruleP kind).num = 0 := by first | (simp [ruleP, rlNum, rlCh, rlAx, rlSg, rlOk, inI, icmp, *]; done) | (simp_all [ruleP, rlNum, rlCh, rlAx, rlSg, rlOk, inI, icmp]; done) | (simp only [ruleP, rlNum, rlCh, rlAx, rlSg, rlOk, inI, icmp]; simp_all; omega) | (simp only [ruleP, rlNum, rlCh, rlAx, rlSg, rlOk, inI, icmp]; simp; omega)
    have x93 : (ruleP kind).ch = 2 := by first | (simp [ruleP, rlNum, rlCh, rlAx, rlSg, rlOk, inI, icmp, *]; done) | (simp_all [ruleP, rlNum, rlCh, rlAx, rlSg, rlOk, inI, icmp]; done) | (simp only [ruleP, rlNum, rlCh, rlAx, rlSg, rlOk, inI, icmp]; simp_all; omega) | (simp only [ruleP, rlNum, rlCh, rlAx, rlSg, rlOk, inI, icmp]; simp; omega)
    have x94 : (ruleP kind).ax = false := by first | (simp [ruleP, rlNum, rlCh, rlAx, rlSg, rlOk, inI, icmp, *]; done) | (simp_all [ruleP, rlNum, rlCh, rlAx, rlSg, rlOk, inI, icmp]; done) | (simp only [ruleP, rlNum, rlCh, rlAx, rlSg, rlOk, inI, icmp]; simp_all; omega) | (simp only [ruleP, rlNum, rlCh, rlAx, rlSg, rlOk, inI, icmp]; simp; omega)
    have x95 : (ruleP kind).sg = 0 := by first | (simp [ruleP, rlNum, rlCh, rlAx, rlSg, rlOk, inI, icmp, *]; done) | (simp_all [ruleP, rlNum, rlCh, rlAx, rlSg, rlOk, inI, icmp]; done) | (simp only [ruleP, rlNum, rlCh, rlAx, rlSg, rlOk, inI, icmp]; simp_all; omega) | (simp only [ruleP, rlNum, rlCh, rlAx, rlSg, rlOk, inI, icmp]; simp; omega)
    exact ⟨[(Iv 0), (Iv 2), (Bo false), (Iv 0)], (by first | with_reducible rfl | rw [x91] | rfl), (by first | with_reducible rfl | (show _ = _; simp only [x92, x93, x94, x95]) | rfl)⟩
  have c85' := c85
  (try simp only [icmp, Bool.and_eq_true, Bool.or_eq_true, Bool.and_eq_false_iff, Bool.or_eq_false_iff, Bool.not_eq_true', Bool.not_eq_false', decide_eq_true_eq, decide_eq_false_iff_not, beq_iff_eq, bne_iff_ne, beq_eq_false_iff_ne, bne_eq_false_iff_eq] at c85')
  refine wp_region_lit ?_
  refine q_is rfl rfl (does_icmp (p := kind) (q := 7) (.inl rfl) (ev rfl) (ev rfl)) (by dsimp only [List.set]; try rfl) ?_
  refine q_is rfl rfl (does_assign (u := (Bo (icmp .eql kind 7))) (ev rfl)) (by dsimp only [List.set]; try rfl) ?_
  refine wpList_nil (hK71 _ _ ?_)
  refine wp_cond_split (t := icmp .eql kind 7) (ev rfl) (fun c96 => ?_) (fun c96 => ?_)
  · have c96' := c96
    (try simp only [icmp, Bool.and_eq_true, Bool.or_eq_true, Bool.and_eq_false_iff, Bool.or_eq_false_iff, Bool.not_eq_true', Bool.not_eq_false', decide_eq_true_eq, decide_eq_false_iff_not, beq_iff_eq, bne_iff_ne, beq_eq_false_iff_ne, bne_eq_false_iff_eq] at c96')
    refine wp_seq_k fun K97 hK97 => ?_
    refine wp_region_lit ?_
    refine q_is rfl rfl (does_build (parts' := [(0, (Iv 0)), (1, (Iv 2)), (2, (Bo false)), (3, (Iv 0))]) (cells := #[(Iv 0), (Iv 2), (Bo false), (Iv 0)]) (evp rfl) (by kernel_rfl)) (by dsimp only [List.set]; try rfl) ?_
    refine seqn rfl rfl (does_store (n := 4) (cs := [(Iv 0), (Iv 0), (Bo false), (Iv 0)]) (u := (.agg #[(Iv 0), (Iv 2), (Bo false), (Iv 0)])) (ev rfl) (ev rfl) Try.sizeOf141 rfl hB4 (Nat.le_of_ble_eq_true rfl) rfl) ?_; rintro _ w100 ⟨rfl, W98, hB99⟩
    change Blk _ _ [(Iv 0), (Iv 2), (Bo false), (Iv 0)] at hB99
    have X101 := Below.wr X8 W98 g7
    refine q_is rfl rfl (does_assign (u := (Bo true)) (ev rfl)) (by dsimp only [List.set]; try rfl) ?_
    refine wpList_nil (hK97 _ _ ?_)
    refine wp_ret ?_
    dsimp only [Exit.then, Exit.inBlock]
    refine ret_val (v := (.tuple #[(.agg #[(Iv 0), (Iv 2), (Bo false), (Iv 0)]), (Bo true)])) (res_CT rfl (slot rfl) (run_loadAgg (cs := [(Iv 0), (Iv 2), (Bo false), (Iv 0)]) Try.isAgg141 Try.sizeOf141 (Blk.cells hB99) rfl) (slot rfl)) X101 ?_
    have x102 : (rlOk kind) = true := by first | (simp [ruleP, rlNum, rlCh, rlAx, rlSg, rlOk, inI, icmp, *]; done) | (simp_all [ruleP, rlNum, rlCh, rlAx, rlSg, rlOk, inI, icmp]; done) | (simp only [ruleP, rlNum, rlCh, rlAx, rlSg, rlOk, inI, icmp]; simp_all; omega) | (simp only [ruleP, rlNum, rlCh, rlAx, rlSg, rlOk, inI, icmp]; simp; omega)
    have x103 : (ruleP kind).num = 0 := by first | (simp [ruleP, rlNum, rlCh, rlAx, rlSg, rlOk, inI, icmp, *]; done) | (simp_all [ruleP, rlNum, rlCh, rlAx, rlSg, rlOk, inI, icmp]; done) | (simp only [ruleP, rlNum, rlCh, rlAx, rlSg, rlOk, inI, icmp]; simp_all; omega) | (simp only [ruleP, rlNum, rlCh, rlAx, rlSg, rlOk, inI, icmp]; simp; omega)
    have x104 : (ruleP kind).ch = 2 := by first | (simp [ruleP, rlNum, rlCh, rlAx, rlSg, rlOk, inI, icmp, *]; done) | (simp_all [ruleP, rlNum, rlCh, rlAx, rlSg, rlOk, inI, icmp]; done) | (simp only [ruleP, rlNum, rlCh, rlAx, rlSg, rlOk, inI, icmp]; simp_all; omega) | (simp only [ruleP, rlNum, rlCh, rlAx, rlSg, rlOk, inI, icmp]; simp; omega)
    have x105 : (ruleP kind).ax = false := by first | (simp [ruleP, rlNum, rlCh, rlAx, rlSg, rlOk, inI, icmp, *]; done) | (simp_all [ruleP, rlNum, rlCh, rlAx, rlSg, rlOk, inI, icmp]; done) | (simp only [ruleP, rlNum, rlCh, rlAx, rlSg, rlOk, inI, icmp]; simp_all; omega) | (simp only [ruleP, rlNum, rlCh, rlAx, rlSg, rlOk, inI, icmp]; simp; omega)
    have x106 : (ruleP kind).sg = 0 := by first | (simp [ruleP, rlNum, rlCh, rlAx, rlSg, rlOk, inI, icmp, *]; done) | (simp_all [ruleP, rlNum, rlCh, rlAx, rlSg, rlOk, inI, icmp]; done) | (simp only [ruleP, rlNum, rlCh, rlAx, rlSg, rlOk, inI, icmp]; simp_all; omega) | (simp only [ruleP, rlNum, rlCh, rlAx, rlSg, rlOk, inI, icmp]; simp; omega)
    exact ⟨[(Iv 0), (Iv 2), (Bo false), (Iv 0)], (by first | with_reducible rfl | rw [x102] | rfl), (by first | with_reducible rfl | (show _ = _; simp only [x103, x104, x105, x106]) | rfl)⟩
  have c96' := c96
  (try simp only [icmp, Bool.and_eq_true, Bool.or_eq_true, Bool.and_eq_false_iff, Bool.or_eq_false_iff, Bool.not_eq_true', Bool.not_eq_false', decide_eq_true_eq, decide_eq_false_iff_not, beq_iff_eq, bne_iff_ne, beq_eq_false_iff_ne, bne_eq_false_iff_eq] at c96')
  refine wp_seq_k fun K107 hK107 => ?_
  refine wp_region_lit ?_
  refine q_is rfl rfl (does_icmp (p := kind) (q := 8) (.inl rfl) (ev rfl) (ev rfl)) (by dsimp only [List.set]; try rfl) ?_
  refine q_is rfl rfl (does_assign (u := (Bo (icmp .eql kind 8))) (ev rfl)) (by dsimp only [List.set]; try rfl) ?_
  refine wpList_nil (hK107 _ _ ?_)
  refine wp_cond_split (t := icmp .eql kind 8) (ev rfl) (fun c108 => ?_) (fun c108 => ?_)
  · have c108' := c108
    (try simp only [icmp, Bool.and_eq_true, Bool.or_eq_true, Bool.and_eq_false_iff, Bool.or_eq_false_iff, Bool.not_eq_true', Bool.not_eq_false', decide_eq_true_eq, decide_eq_false_iff_not, beq_iff_eq, bne_iff_ne, beq_eq_false_iff_ne, bne_eq_false_iff_eq] at c108')
    refine wp_seq_k fun K109 hK109 => ?_
    refine wp_region_lit ?_
    refine q_is rfl rfl (does_build (parts' := [(0, (Iv 1)), (1, (Iv 2)), (2, (Bo false)), (3, (Iv 2))]) (cells := #[(Iv 1), (Iv 2), (Bo false), (Iv 2)]) (evp rfl) (by kernel_rfl)) (by dsimp only [List.set]; try rfl) ?_
    refine seqn rfl rfl (does_store (n := 4) (cs := [(Iv 0), (Iv 0), (Bo false), (Iv 0)]) (u := (.agg #[(Iv 1), (Iv 2), (Bo false), (Iv 2)])) (ev rfl) (ev rfl) Try.sizeOf141 rfl hB4 (Nat.le_of_ble_eq_true rfl) rfl) ?_; rintro _ w112 ⟨rfl, W110, hB111⟩
    change Blk _ _ [(Iv 1), (Iv 2), (Bo false), (Iv 2)] at hB111
    have X113 := Below.wr X8 W110 g7
    refine q_is rfl rfl (does_assign (u := (Bo true)) (ev rfl)) (by dsimp only [List.set]; try rfl) ?_
    refine wpList_nil (hK109 _ _ ?_)
    refine wp_ret ?_
    dsimp only [Exit.then, Exit.inBlock]
    refine ret_val (v := (.tuple #[(.agg #[(Iv 1), (Iv 2), (Bo false), (Iv 2)]), (Bo true)])) (res_CT rfl (slot rfl) (run_loadAgg (cs := [(Iv 1), (Iv 2), (Bo false), (Iv 2)]) Try.isAgg141 Try.sizeOf141 (Blk.cells hB111) rfl) (slot rfl)) X113 ?_
    have x114 : (rlOk kind) = true := by first | (simp [ruleP, rlNum, rlCh, rlAx, rlSg, rlOk, inI, icmp, *]; done) | (simp_all [ruleP, rlNum, rlCh, rlAx, rlSg, rlOk, inI, icmp]; done) | (simp only [ruleP, rlNum, rlCh, rlAx, rlSg, rlOk, inI, icmp]; simp_all; omega) | (simp only [ruleP, rlNum, rlCh, rlAx, rlSg, rlOk, inI, icmp]; simp; omega)
    have x115 : (ruleP kind).num = 1 := by first | (simp [ruleP, rlNum, rlCh, rlAx, rlSg, rlOk, inI, icmp, *]; done) | (simp_all [ruleP, rlNum, rlCh, rlAx, rlSg, rlOk, inI, icmp]; done) | (simp only [ruleP, rlNum, rlCh, rlAx, rlSg, rlOk, inI, icmp]; simp_all; omega) | (simp only [ruleP, rlNum, rlCh, rlAx, rlSg, rlOk, inI, icmp]; simp; omega)
    have x116 : (ruleP kind).ch = 2 := by first | (simp [ruleP, rlNum, rlCh, rlAx, rlSg, rlOk, inI, icmp, *]; done) | (simp_all [ruleP, rlNum, rlCh, rlAx, rlSg, rlOk, inI, icmp]; done) | (simp only [ruleP, rlNum, rlCh, rlAx, rlSg, rlOk, inI, icmp]; simp_all; omega) | (simp only [ruleP, rlNum, rlCh, rlAx, rlSg, rlOk, inI, icmp]; simp; omega)
    have x117 : (ruleP kind).ax = false := by first | (simp [ruleP, rlNum, rlCh, rlAx, rlSg, rlOk, inI, icmp, *]; done) | (simp_all [ruleP, rlNum, rlCh, rlAx, rlSg, rlOk, inI, icmp]; done) | (simp only [ruleP, rlNum, rlCh, rlAx, rlSg, rlOk, inI, icmp]; simp_all; omega) | (simp only [ruleP, rlNum, rlCh, rlAx, rlSg, rlOk, inI, icmp]; simp; omega)
    have x118 : (ruleP kind).sg = 2 := by first | (simp [ruleP, rlNum, rlCh, rlAx, rlSg, rlOk, inI, icmp, *]; done) | (simp_all [ruleP, rlNum, rlCh, rlAx, rlSg, rlOk, inI, icmp]; done) | (simp only [ruleP, rlNum, rlCh, rlAx, rlSg, rlOk, inI, icmp]; simp_all; omega) | (simp only [ruleP, rlNum, rlCh, rlAx, rlSg, rlOk, inI, icmp]; simp; omega)
    exact ⟨[(Iv 1), (Iv 2), (Bo false), (Iv 2)], (by first | with_reducible rfl | rw [x114] | rfl), (by first | with_reducible rfl | (show _ = _; simp only [x115, x116, x117, x118]) | rfl)⟩
  have c108' := c108
  (try simp only [icmp, Bool.and_eq_true, Bool.or_eq_true, Bool.and_eq_false_iff, Bool.or_eq_false_iff, Bool.not_eq_true', Bool.not_eq_false', decide_eq_true_eq, decide_eq_false_iff_not, beq_iff_eq, bne_iff_ne, beq_eq_false_iff_ne, bne_eq_false_iff_eq] at c108')
  refine wp_seq_k fun K119 hK119 => ?_
  refine wp_region_lit ?_
  refine q_is rfl rfl (does_icmp (p := kind) (q := 9) (.inl rfl) (ev rfl) (ev rfl)) (by dsimp only [List.set]; try rfl) ?_
  refine q_is rfl rfl (does_assign (u := (Bo (icmp .eql kind 9))) (ev rfl)) (by dsimp only [List.set]; try rfl) ?_
  refine wpList_nil (hK119 _ _ ?_)
  refine wp_cond_split (t := icmp .eql kind 9) (ev rfl) (fun c120 => ?_) (fun c120 => ?_)
  · have c120' := c120
    (try simp only [icmp, Bool.and_eq_true, Bool.or_eq_true, Bool.and_eq_false_iff, Bool.or_eq_false_iff, Bool.not_eq_true', Bool.not_eq_false', decide_eq_true_eq, decide_eq_false_iff_not, beq_iff_eq, bne_iff_ne, beq_eq_false_iff_ne, bne_eq_false_iff_eq] at c120')
    refine wp_seq_k fun K121 hK121 => ?_
    refine wp_region_lit ?_
    refine q_is rfl rfl (does_build (parts' := [(0, (Iv 3)), (1, (Iv 1)), (2, (Bo false)), (3, (Iv 0))]) (cells := #[(Iv 3), (Iv 1), (Bo false), (Iv 0)]) (evp rfl) (by kernel_rfl)) (by dsimp only [List.set]; try rfl) ?_
    refine seqn rfl rfl (does_store (n := 4) (cs := [(Iv 0), (Iv 0), (Bo false), (Iv 0)]) (u := (.agg #[(Iv 3), (Iv 1), (Bo false), (Iv 0)])) (ev rfl) (ev rfl) Try.sizeOf141 rfl hB4 (Nat.le_of_ble_eq_true rfl) rfl) ?_; rintro _ w124 ⟨rfl, W122, hB123⟩
    change Blk _ _ [(Iv 3), (Iv 1), (Bo false), (Iv 0)] at hB123
    have X125 := Below.wr X8 W122 g7
    refine q_is rfl rfl (does_assign (u := (Bo true)) (ev rfl)) (by dsimp only [List.set]; try rfl) ?_
    refine wpList_nil (hK121 _ _ ?_)
    refine wp_ret ?_
    dsimp only [Exit.then, Exit.inBlock]
    refine ret_val (v := (.tuple #[(.agg #[(Iv 3), (Iv 1), (Bo false), (Iv 0)]), (Bo true)])) (res_CT rfl (slot rfl) (run_loadAgg (cs := [(Iv 3), (Iv 1), (Bo false), (Iv 0)]) Try.isAgg141 Try.sizeOf141 (Blk.cells hB123) rfl) (slot rfl)) X125 ?_
    have x126 : (rlOk kind) = true := by first | (simp [ruleP, rlNum, rlCh, rlAx, rlSg, rlOk, inI, icmp, *]; done) | (simp_all [ruleP, rlNum, rlCh, rlAx, rlSg, rlOk, inI, icmp]; done) | (simp only [ruleP, rlNum, rlCh, rlAx, rlSg, rlOk, inI, icmp]; simp_all; omega) | (simp only [ruleP, rlNum, rlCh, rlAx, rlSg, rlOk, inI, icmp]; simp; omega)
    have x127 : (ruleP kind).num = 3 := by first | (simp [ruleP, rlNum, rlCh, rlAx, rlSg, rlOk, inI, icmp, *]; done) | (simp_all [ruleP, rlNum, rlCh, rlAx, rlSg, rlOk, inI, icmp]; done) | (simp only [ruleP, rlNum, rlCh, rlAx, rlSg, rlOk, inI, icmp]; simp_all; omega) | (simp only [ruleP, rlNum, rlCh, rlAx, rlSg, rlOk, inI, icmp]; simp; omega)
    have x128 : (ruleP kind).ch = 1 := by first | (simp [ruleP, rlNum, rlCh, rlAx, rlSg, rlOk, inI, icmp, *]; done) | (simp_all [ruleP, rlNum, rlCh, rlAx, rlSg, rlOk, inI, icmp]; done) | (simp only [ruleP, rlNum, rlCh, rlAx, rlSg, rlOk, inI, icmp]; simp_all; omega) | (simp only [ruleP, rlNum, rlCh, rlAx, rlSg, rlOk, inI, icmp]; simp; omega)
    have x129 : (ruleP kind).ax = false := by first | (simp [ruleP, rlNum, rlCh, rlAx, rlSg, rlOk, inI, icmp, *]; done) | (simp_all [ruleP, rlNum, rlCh, rlAx, rlSg, rlOk, inI, icmp]; done) | (simp only [ruleP, rlNum, rlCh, rlAx, rlSg, rlOk, inI, icmp]; simp_all; omega) | (simp only [ruleP, rlNum, rlCh, rlAx, rlSg, rlOk, inI, icmp]; simp; omega)
    have x130 : (ruleP kind).sg = 0 := by first | (simp [ruleP, rlNum, rlCh, rlAx, rlSg, rlOk, inI, icmp, *]; done) | (simp_all [ruleP, rlNum, rlCh, rlAx, rlSg, rlOk, inI, icmp]; done) | (simp only [ruleP, rlNum, rlCh, rlAx, rlSg, rlOk, inI, icmp]; simp_all; omega) | (simp only [ruleP, rlNum, rlCh, rlAx, rlSg, rlOk, inI, icmp]; simp; omega)
    exact ⟨[(Iv 3), (Iv 1), (Bo false), (Iv 0)], (by first | with_reducible rfl | rw [x126] | rfl), (by first | with_reducible rfl | (show _ = _; simp only [x127, x128, x129, x130]) | rfl)⟩
  have c120' := c120
  (try simp only [icmp, Bool.and_eq_true, Bool.or_eq_true, Bool.and_eq_false_iff, Bool.or_eq_false_iff, Bool.not_eq_true', Bool.not_eq_false', decide_eq_true_eq, decide_eq_false_iff_not, beq_iff_eq, bne_iff_ne, beq_eq_false_iff_ne, bne_eq_false_iff_eq] at c120')
  refine wp_seq_k fun K131 hK131 => ?_
  refine wp_region_lit ?_
  refine q_is rfl rfl (does_icmp (p := kind) (q := 10) (.inl rfl) (ev rfl) (ev rfl)) (by dsimp only [List.set]; try rfl) ?_
  refine q_is rfl rfl (does_assign (u := (Bo (icmp .eql kind 10))) (ev rfl)) (by dsimp only [List.set]; try rfl) ?_
  refine wpList_nil (hK131 _ _ ?_)
  refine wp_cond_split (t := icmp .eql kind 10) (ev rfl) (fun c132 => ?_) (fun c132 => ?_)
  · have c132' := c132
    (try simp only [icmp, Bool.and_eq_true, Bool.or_eq_true, Bool.and_eq_false_iff, Bool.or_eq_false_iff, Bool.not_eq_true', Bool.not_eq_false', decide_eq_true_eq, decide_eq_false_iff_not, beq_iff_eq, bne_iff_ne, beq_eq_false_iff_ne, bne_eq_false_iff_eq] at c132')
    refine wp_seq_k fun K133 hK133 => ?_
    refine wp_region_lit ?_
    refine q_is rfl rfl (does_build (parts' := [(0, (Iv 1)), (1, (Iv 1)), (2, (Bo false)), (3, (Iv 2))]) (cells := #[(Iv 1), (Iv 1), (Bo false), (Iv 2)]) (evp rfl) (by kernel_rfl)) (by dsimp only [List.set]; try rfl) ?_
    refine seqn rfl rfl (does_store (n := 4) (cs := [(Iv 0), (Iv 0), (Bo false), (Iv 0)]) (u := (.agg #[(Iv 1), (Iv 1), (Bo false), (Iv 2)])) (ev rfl) (ev rfl) Try.sizeOf141 rfl hB4 (Nat.le_of_ble_eq_true rfl) rfl) ?_; rintro _ w136 ⟨rfl, W134, hB135⟩
    change Blk _ _ [(Iv 1), (Iv 1), (Bo false), (Iv 2)] at hB135
    have X137 := Below.wr X8 W134 g7
    refine q_is rfl rfl (does_assign (u := (Bo true)) (ev rfl)) (by dsimp only [List.set]; try rfl) ?_
    refine wpList_nil (hK133 _ _ ?_)
    refine wp_ret ?_
    dsimp only [Exit.then, Exit.inBlock]
    refine ret_val (v := (.tuple #[(.agg #[(Iv 1), (Iv 1), (Bo false), (Iv 2)]), (Bo true)])) (res_CT rfl (slot rfl) (run_loadAgg (cs := [(Iv 1), (Iv 1), (Bo false), (Iv 2)]) Try.isAgg141 Try.sizeOf141 (Blk.cells hB135) rfl) (slot rfl)) X137 ?_
    have x138 : (rlOk kind) = true := by first | (simp [ruleP, rlNum, rlCh, rlAx, rlSg, rlOk, inI, icmp, *]; done) | (simp_all [ruleP, rlNum, rlCh, rlAx, rlSg, rlOk, inI, icmp]; done) | (simp only [ruleP, rlNum, rlCh, rlAx, rlSg, rlOk, inI, icmp]; simp_all; omega) | (simp only [ruleP, rlNum, rlCh, rlAx, rlSg, rlOk, inI, icmp]; simp; omega)
    have x139 : (ruleP kind).num = 1 := by first | (simp [ruleP, rlNum, rlCh, rlAx, rlSg, rlOk, inI, icmp, *]; done) | (simp_all [ruleP, rlNum, rlCh, rlAx, rlSg, rlOk, inI, icmp]; done) | (simp only [ruleP, rlNum, rlCh, rlAx, rlSg, rlOk, inI, icmp]; simp_all; omega) | (simp only [ruleP, rlNum, rlCh, rlAx, rlSg, rlOk, inI, icmp]; simp; omega)
    have x140 : (ruleP kind).ch = 1 := by first | (simp [ruleP, rlNum, rlCh, rlAx, rlSg, rlOk, inI, icmp, *]; done) | (simp_all [ruleP, rlNum, rlCh, rlAx, rlSg, rlOk, inI, icmp]; done) | (simp only [ruleP, rlNum, rlCh, rlAx, rlSg, rlOk, inI, icmp]; simp_all; omega) | (simp only [ruleP, rlNum, rlCh, rlAx, rlSg, rlOk, inI, icmp]; simp; omega)
    have x141 : (ruleP kind).ax = false := by first | (simp [ruleP, rlNum, rlCh, rlAx, rlSg, rlOk, inI, icmp, *]; done) | (simp_all [ruleP, rlNum, rlCh, rlAx, rlSg, rlOk, inI, icmp]; done) | (simp only [ruleP, rlNum, rlCh, rlAx, rlSg, rlOk, inI, icmp]; simp_all; omega) | (simp only [ruleP, rlNum, rlCh, rlAx, rlSg, rlOk, inI, icmp]; simp; omega)
    have x142 : (ruleP kind).sg = 2 := by first | (simp [ruleP, rlNum, rlCh, rlAx, rlSg, rlOk, inI, icmp, *]; done) | (simp_all [ruleP, rlNum, rlCh, rlAx, rlSg, rlOk, inI, icmp]; done) | (simp only [ruleP, rlNum, rlCh, rlAx, rlSg, rlOk, inI, icmp]; simp_all; omega) | (simp only [ruleP, rlNum, rlCh, rlAx, rlSg, rlOk, inI, icmp]; simp; omega)
    exact ⟨[(Iv 1), (Iv 1), (Bo false), (Iv 2)], (by first | with_reducible rfl | rw [x138] | rfl), (by first | with_reducible rfl | (show _ = _; simp only [x139, x140, x141, x142]) | rfl)⟩
  have c132' := c132
  (try simp only [icmp, Bool.and_eq_true, Bool.or_eq_true, Bool.and_eq_false_iff, Bool.or_eq_false_iff, Bool.not_eq_true', Bool.not_eq_false', decide_eq_true_eq, decide_eq_false_iff_not, beq_iff_eq, bne_iff_ne, beq_eq_false_iff_ne, bne_eq_false_iff_eq] at c132')
  refine wp_seq_k fun K143 hK143 => ?_
  refine wp_region_lit ?_
  refine q_is rfl rfl (does_icmp (p := kind) (q := 11) (.inl rfl) (ev rfl) (ev rfl)) (by dsimp only [List.set]; try rfl) ?_
  refine q_is rfl rfl (does_assign (u := (Bo (icmp .eql kind 11))) (ev rfl)) (by dsimp only [List.set]; try rfl) ?_
  refine wpList_nil (hK143 _ _ ?_)
  refine wp_cond_split (t := icmp .eql kind 11) (ev rfl) (fun c144 => ?_) (fun c144 => ?_)
  · have c144' := c144
    (try simp only [icmp, Bool.and_eq_true, Bool.or_eq_true, Bool.and_eq_false_iff, Bool.or_eq_false_iff, Bool.not_eq_true', Bool.not_eq_false', decide_eq_true_eq, decide_eq_false_iff_not, beq_iff_eq, bne_iff_ne, beq_eq_false_iff_ne, bne_eq_false_iff_eq] at c144')
    refine wp_seq_k fun K145 hK145 => ?_
    refine wp_region_lit ?_
    refine q_is rfl rfl (does_build (parts' := [(0, (Iv 3)), (1, (Iv 1)), (2, (Bo false)), (3, (Iv 2))]) (cells := #[(Iv 3), (Iv 1), (Bo false), (Iv 2)]) (evp rfl) (by kernel_rfl)) (by dsimp only [List.set]; try rfl) ?_
    refine seqn rfl rfl (does_store (n := 4) (cs := [(Iv 0), (Iv 0), (Bo false), (Iv 0)]) (u := (.agg #[(Iv 3), (Iv 1), (Bo false), (Iv 2)])) (ev rfl) (ev rfl) Try.sizeOf141 rfl hB4 (Nat.le_of_ble_eq_true rfl) rfl) ?_; rintro _ w148 ⟨rfl, W146, hB147⟩
    change Blk _ _ [(Iv 3), (Iv 1), (Bo false), (Iv 2)] at hB147
    have X149 := Below.wr X8 W146 g7
    refine q_is rfl rfl (does_assign (u := (Bo true)) (ev rfl)) (by dsimp only [List.set]; try rfl) ?_
    refine wpList_nil (hK145 _ _ ?_)
    refine wp_ret ?_
    dsimp only [Exit.then, Exit.inBlock]
    refine ret_val (v := (.tuple #[(.agg #[(Iv 3), (Iv 1), (Bo false), (Iv 2)]), (Bo true)])) (res_CT rfl (slot rfl) (run_loadAgg (cs := [(Iv 3), (Iv 1), (Bo false), (Iv 2)]) Try.isAgg141 Try.sizeOf141 (Blk.cells hB147) rfl) (slot rfl)) X149 ?_
    have x150 : (rlOk kind) = true := by first | (simp [ruleP, rlNum, rlCh, rlAx, rlSg, rlOk, inI, icmp, *]; done) | (simp_all [ruleP, rlNum, rlCh, rlAx, rlSg, rlOk, inI, icmp]; done) | (simp only [ruleP, rlNum, rlCh, rlAx, rlSg, rlOk, inI, icmp]; simp_all; omega) | (simp only [ruleP, rlNum, rlCh, rlAx, rlSg, rlOk, inI, icmp]; simp; omega)
    have x151 : (ruleP kind).num = 3 := by first | (simp [ruleP, rlNum, rlCh, rlAx, rlSg, rlOk, inI, icmp, *]; done) | (simp_all [ruleP, rlNum, rlCh, rlAx, rlSg, rlOk, inI, icmp]; done) | (simp only [ruleP, rlNum, rlCh, rlAx, rlSg, rlOk, inI, icmp]; simp_all; omega) | (simp only [ruleP, rlNum, rlCh, rlAx, rlSg, rlOk, inI, icmp]; simp; omega)
    have x152 : (ruleP kind).ch = 1 := by first | (simp [ruleP, rlNum, rlCh, rlAx, rlSg, rlOk, inI, icmp, *]; done) | (simp_all [ruleP, rlNum, rlCh, rlAx, rlSg, rlOk, inI, icmp]; done) | (simp only [ruleP, rlNum, rlCh, rlAx, rlSg, rlOk, inI, icmp]; simp_all; omega) | (simp only [ruleP, rlNum, rlCh, rlAx, rlSg, rlOk, inI, icmp]; simp; omega)
    have x153 : (ruleP kind).ax = false := by first | (simp [ruleP, rlNum, rlCh, rlAx, rlSg, rlOk, inI, icmp, *]; done) | (simp_all [ruleP, rlNum, rlCh, rlAx, rlSg, rlOk, inI, icmp]; done) | (simp only [ruleP, rlNum, rlCh, rlAx, rlSg, rlOk, inI, icmp]; simp_all; omega) | (simp only [ruleP, rlNum, rlCh, rlAx, rlSg, rlOk, inI, icmp]; simp; omega)
    have x154 : (ruleP kind).sg = 2 := by first | (simp [ruleP, rlNum, rlCh, rlAx, rlSg, rlOk, inI, icmp, *]; done) | (simp_all [ruleP, rlNum, rlCh, rlAx, rlSg, rlOk, inI, icmp]; done) | (simp only [ruleP, rlNum, rlCh, rlAx, rlSg, rlOk, inI, icmp]; simp_all; omega) | (simp only [ruleP, rlNum, rlCh, rlAx, rlSg, rlOk, inI, icmp]; simp; omega)
    exact ⟨[(Iv 3), (Iv 1), (Bo false), (Iv 2)], (by first | with_reducible rfl | rw [x150] | rfl), (by first | with_reducible rfl | (show _ = _; simp only [x151, x152, x153, x154]) | rfl)⟩
  have c144' := c144
  (try simp only [icmp, Bool.and_eq_true, Bool.or_eq_true, Bool.and_eq_false_iff, Bool.or_eq_false_iff, Bool.not_eq_true', Bool.not_eq_false', decide_eq_true_eq, decide_eq_false_iff_not, beq_iff_eq, bne_iff_ne, beq_eq_false_iff_ne, bne_eq_false_iff_eq] at c144')
  refine wp_seq_k fun K155 hK155 => ?_
  refine wp_region_lit ?_
  refine q_is rfl rfl (does_icmp (p := kind) (q := 12) (.inl rfl) (ev rfl) (ev rfl)) (by dsimp only [List.set]; try rfl) ?_
  refine q_is rfl rfl (does_assign (u := (Bo (icmp .eql kind 12))) (ev rfl)) (by dsimp only [List.set]; try rfl) ?_
  refine wpList_nil (hK155 _ _ ?_)
  refine wp_cond_split (t := icmp .eql kind 12) (ev rfl) (fun c156 => ?_) (fun c156 => ?_)
  · have c156' := c156
    (try simp only [icmp, Bool.and_eq_true, Bool.or_eq_true, Bool.and_eq_false_iff, Bool.or_eq_false_iff, Bool.not_eq_true', Bool.not_eq_false', decide_eq_true_eq, decide_eq_false_iff_not, beq_iff_eq, bne_iff_ne, beq_eq_false_iff_ne, bne_eq_false_iff_eq] at c156')
    refine wp_seq_k fun K157 hK157 => ?_
    refine wp_region_lit ?_
    refine q_is rfl rfl (does_build (parts' := [(0, (Iv 1)), (1, (Iv 1)), (2, (Bo true)), (3, (Iv 0))]) (cells := #[(Iv 1), (Iv 1), (Bo true), (Iv 0)]) (evp rfl) (by kernel_rfl)) (by dsimp only [List.set]; try rfl) ?_
    refine seqn rfl rfl (does_store (n := 4) (cs := [(Iv 0), (Iv 0), (Bo false), (Iv 0)]) (u := (.agg #[(Iv 1), (Iv 1), (Bo true), (Iv 0)])) (ev rfl) (ev rfl) Try.sizeOf141 rfl hB4 (Nat.le_of_ble_eq_true rfl) rfl) ?_; rintro _ w160 ⟨rfl, W158, hB159⟩
    change Blk _ _ [(Iv 1), (Iv 1), (Bo true), (Iv 0)] at hB159
    have X161 := Below.wr X8 W158 g7
    refine q_is rfl rfl (does_assign (u := (Bo true)) (ev rfl)) (by dsimp only [List.set]; try rfl) ?_
    refine wpList_nil (hK157 _ _ ?_)
    refine wp_ret ?_
    dsimp only [Exit.then, Exit.inBlock]
    refine ret_val (v := (.tuple #[(.agg #[(Iv 1), (Iv 1), (Bo true), (Iv 0)]), (Bo true)])) (res_CT rfl (slot rfl) (run_loadAgg (cs := [(Iv 1), (Iv 1), (Bo true), (Iv 0)]) Try.isAgg141 Try.sizeOf141 (Blk.cells hB159) rfl) (slot rfl)) X161 ?_
    have x162 : (rlOk kind) = true := by first | (simp [ruleP, rlNum, rlCh, rlAx, rlSg, rlOk, inI, icmp, *]; done) | (simp_all [ruleP, rlNum, rlCh, rlAx, rlSg, rlOk, inI, icmp]; done) | (simp only [ruleP, rlNum, rlCh, rlAx, rlSg, rlOk, inI, icmp]; simp_all; omega) | (simp only [ruleP, rlNum, rlCh, rlAx, rlSg, rlOk, inI, icmp]; simp; omega)
    have x163 : (ruleP kind).num = 1 := by first | (simp [ruleP, rlNum, rlCh, rlAx, rlSg, rlOk, inI, icmp, *]; done) | (simp_all [ruleP, rlNum, rlCh, rlAx, rlSg, rlOk, inI, icmp]; done) | (simp only [ruleP, rlNum, rlCh, rlAx, rlSg, rlOk, inI, icmp]; simp_all; omega) | (simp only [ruleP, rlNum, rlCh, rlAx, rlSg, rlOk, inI, icmp]; simp; omega)
    have x164 : (ruleP kind).ch = 1 := by first | (simp [ruleP, rlNum, rlCh, rlAx, rlSg, rlOk, inI, icmp, *]; done) | (simp_all [ruleP, rlNum, rlCh, rlAx, rlSg, rlOk, inI, icmp]; done) | (simp only [ruleP, rlNum, rlCh, rlAx, rlSg, rlOk, inI, icmp]; simp_all; omega) | (simp only [ruleP, rlNum, rlCh, rlAx, rlSg, rlOk, inI, icmp]; simp; omega)
    have x165 : (ruleP kind).ax = true := by first | (simp [ruleP, rlNum, rlCh, rlAx, rlSg, rlOk, inI, icmp, *]; done) | (simp_all [ruleP, rlNum, rlCh, rlAx, rlSg, rlOk, inI, icmp]; done) | (simp only [ruleP, rlNum, rlCh, rlAx, rlSg, rlOk, inI, icmp]; simp_all; omega) | (simp only [ruleP, rlNum, rlCh, rlAx, rlSg, rlOk, inI, icmp]; simp; omega)
    have x166 : (ruleP kind).sg = 0 := by first | (simp [ruleP, rlNum, rlCh, rlAx, rlSg, rlOk, inI, icmp, *]; done) | (simp_all [ruleP, rlNum, rlCh, rlAx, rlSg, rlOk, inI, icmp]; done) | (simp only [ruleP, rlNum, rlCh, rlAx, rlSg, rlOk, inI, icmp]; simp_all; omega) | (simp only [ruleP, rlNum, rlCh, rlAx, rlSg, rlOk, inI, icmp]; simp; omega)
    exact ⟨[(Iv 1), (Iv 1), (Bo true), (Iv 0)], (by first | with_reducible rfl | rw [x162] | rfl), (by first | with_reducible rfl | (show _ = _; simp only [x163, x164, x165, x166]) | rfl)⟩
  have c156' := c156
  (try simp only [icmp, Bool.and_eq_true, Bool.or_eq_true, Bool.and_eq_false_iff, Bool.or_eq_false_iff, Bool.not_eq_true', Bool.not_eq_false', decide_eq_true_eq, decide_eq_false_iff_not, beq_iff_eq, bne_iff_ne, beq_eq_false_iff_ne, bne_eq_false_iff_eq] at c156')
  refine wp_seq_k fun K167 hK167 => ?_
  refine wp_region_lit ?_
  refine q_is rfl rfl (does_icmp (p := kind) (q := 13) (.inl rfl) (ev rfl) (ev rfl)) (by dsimp only [List.set]; try rfl) ?_
  refine q_is rfl rfl (does_assign (u := (Bo (icmp .eql kind 13))) (ev rfl)) (by dsimp only [List.set]; try rfl) ?_
  refine wpList_nil (hK167 _ _ ?_)
  refine wp_cond_split (t := icmp .eql kind 13) (ev rfl) (fun c168 => ?_) (fun c168 => ?_)
  · have c168' := c168
    (try simp only [icmp, Bool.and_eq_true, Bool.or_eq_true, Bool.and_eq_false_iff, Bool.or_eq_false_iff, Bool.not_eq_true', Bool.not_eq_false', decide_eq_true_eq, decide_eq_false_iff_not, beq_iff_eq, bne_iff_ne, beq_eq_false_iff_ne, bne_eq_false_iff_eq] at c168')
    refine wp_seq_k fun K169 hK169 => ?_
    refine wp_region_lit ?_
    refine q_is rfl rfl (does_build (parts' := [(0, (Iv 0)), (1, (Iv 1)), (2, (Bo true)), (3, (Iv 0))]) (cells := #[(Iv 0), (Iv 1), (Bo true), (Iv 0)]) (evp rfl) (by kernel_rfl)) (by dsimp only [List.set]; try rfl) ?_
    refine seqn rfl rfl (does_store (n := 4) (cs := [(Iv 0), (Iv 0), (Bo false), (Iv 0)]) (u := (.agg #[(Iv 0), (Iv 1), (Bo true), (Iv 0)])) (ev rfl) (ev rfl) Try.sizeOf141 rfl hB4 (Nat.le_of_ble_eq_true rfl) rfl) ?_; rintro _ w172 ⟨rfl, W170, hB171⟩
    change Blk _ _ [(Iv 0), (Iv 1), (Bo true), (Iv 0)] at hB171
    have X173 := Below.wr X8 W170 g7
    refine q_is rfl rfl (does_assign (u := (Bo true)) (ev rfl)) (by dsimp only [List.set]; try rfl) ?_
    refine wpList_nil (hK169 _ _ ?_)
    refine wp_ret ?_
    dsimp only [Exit.then, Exit.inBlock]
    refine ret_val (v := (.tuple #[(.agg #[(Iv 0), (Iv 1), (Bo true), (Iv 0)]), (Bo true)])) (res_CT rfl (slot rfl) (run_loadAgg (cs := [(Iv 0), (Iv 1), (Bo true), (Iv 0)]) Try.isAgg141 Try.sizeOf141 (Blk.cells hB171) rfl) (slot rfl)) X173 ?_
    have x174 : (rlOk kind) = true := by first | (simp [ruleP, rlNum, rlCh, rlAx, rlSg, rlOk, inI, icmp, *]; done) | (simp_all [ruleP, rlNum, rlCh, rlAx, rlSg, rlOk, inI, icmp]; done) | (simp only [ruleP, rlNum, rlCh, rlAx, rlSg, rlOk, inI, icmp]; simp_all; omega) | (simp only [ruleP, rlNum, rlCh, rlAx, rlSg, rlOk, inI, icmp]; simp; omega)
    have x175 : (ruleP kind).num = 0 := by first | (simp [ruleP, rlNum, rlCh, rlAx, rlSg, rlOk, inI, icmp, *]; done) | (simp_all [ruleP, rlNum, rlCh, rlAx, rlSg, rlOk, inI, icmp]; done) | (simp only [ruleP, rlNum, rlCh, rlAx, rlSg, rlOk, inI, icmp]; simp_all; omega) | (simp only [ruleP, rlNum, rlCh, rlAx, rlSg, rlOk, inI, icmp]; simp; omega)
    have x176 : (ruleP kind).ch = 1 := by first | (simp [ruleP, rlNum, rlCh, rlAx, rlSg, rlOk, inI, icmp, *]; done) | (simp_all [ruleP, rlNum, rlCh, rlAx, rlSg, rlOk, inI, icmp]; done) | (simp only [ruleP, rlNum, rlCh, rlAx, rlSg, rlOk, inI, icmp]; simp_all; omega) | (simp only [ruleP, rlNum, rlCh, rlAx, rlSg, rlOk, inI, icmp]; simp; omega)
    have x177 : (ruleP kind).ax = true := by first | (simp [ruleP, rlNum, rlCh, rlAx, rlSg, rlOk, inI, icmp, *]; done) | (simp_all [ruleP, rlNum, rlCh, rlAx, rlSg, rlOk, inI, icmp]; done) | (simp only [ruleP, rlNum, rlCh, rlAx, rlSg, rlOk, inI, icmp]; simp_all; omega) | (simp only [ruleP, rlNum, rlCh, rlAx, rlSg, rlOk, inI, icmp]; simp; omega)
    have x178 : (ruleP kind).sg = 0 := by first | (simp [ruleP, rlNum, rlCh, rlAx, rlSg, rlOk, inI, icmp, *]; done) | (simp_all [ruleP, rlNum, rlCh, rlAx, rlSg, rlOk, inI, icmp]; done) | (simp only [ruleP, rlNum, rlCh, rlAx, rlSg, rlOk, inI, icmp]; simp_all; omega) | (simp only [ruleP, rlNum, rlCh, rlAx, rlSg, rlOk, inI, icmp]; simp; omega)
    exact ⟨[(Iv 0), (Iv 1), (Bo true), (Iv 0)], (by first | with_reducible rfl | rw [x174] | rfl), (by first | with_reducible rfl | (show _ = _; simp only [x175, x176, x177, x178]) | rfl)⟩
  have c168' := c168
  (try simp only [icmp, Bool.and_eq_true, Bool.or_eq_true, Bool.and_eq_false_iff, Bool.or_eq_false_iff, Bool.not_eq_true', Bool.not_eq_false', decide_eq_true_eq, decide_eq_false_iff_not, beq_iff_eq, bne_iff_ne, beq_eq_false_iff_ne, bne_eq_false_iff_eq] at c168')
  refine wp_seq_k fun K179 hK179 => ?_
  refine wp_region_lit ?_
  refine q_is rfl rfl (does_icmp (p := kind) (q := 14) (.inl rfl) (ev rfl) (ev rfl)) (by dsimp only [List.set]; try rfl) ?_
  refine q_is rfl rfl (does_assign (u := (Bo (icmp .eql kind 14))) (ev rfl)) (by dsimp only [List.set]; try rfl) ?_
  refine wpList_nil (hK179 _ _ ?_)
  refine wp_cond_split (t := icmp .eql kind 14) (ev rfl) (fun c180 => ?_) (fun c180 => ?_)
  · have c180' := c180
    (try simp only [icmp, Bool.and_eq_true, Bool.or_eq_true, Bool.and_eq_false_iff, Bool.or_eq_false_iff, Bool.not_eq_true', Bool.not_eq_false', decide_eq_true_eq, decide_eq_false_iff_not, beq_iff_eq, bne_iff_ne, beq_eq_false_iff_ne, bne_eq_false_iff_eq] at c180')
    refine wp_seq_k fun K181 hK181 => ?_
    refine wp_region_lit ?_
    refine q_is rfl rfl (does_build (parts' := [(0, (Iv 1)), (1, (Iv 1)), (2, (Bo true)), (3, (Iv 2))]) (cells := #[(Iv 1), (Iv 1), (Bo true), (Iv 2)]) (evp rfl) (by kernel_rfl)) (by dsimp only [List.set]; try rfl) ?_
    refine seqn rfl rfl (does_store (n := 4) (cs := [(Iv 0), (Iv 0), (Bo false), (Iv 0)]) (u := (.agg #[(Iv 1), (Iv 1), (Bo true), (Iv 2)])) (ev rfl) (ev rfl) Try.sizeOf141 rfl hB4 (Nat.le_of_ble_eq_true rfl) rfl) ?_; rintro _ w184 ⟨rfl, W182, hB183⟩
    change Blk _ _ [(Iv 1), (Iv 1), (Bo true), (Iv 2)] at hB183
    have X185 := Below.wr X8 W182 g7
    refine q_is rfl rfl (does_assign (u := (Bo true)) (ev rfl)) (by dsimp only [List.set]; try rfl) ?_
    refine wpList_nil (hK181 _ _ ?_)
    refine wp_ret ?_
    dsimp only [Exit.then, Exit.inBlock]
    refine ret_val (v := (.tuple #[(.agg #[(Iv 1), (Iv 1), (Bo true), (Iv 2)]), (Bo true)])) (res_CT rfl (slot rfl) (run_loadAgg (cs := [(Iv 1), (Iv 1), (Bo true), (Iv 2)]) Try.isAgg141 Try.sizeOf141 (Blk.cells hB183) rfl) (slot rfl)) X185 ?_
    have x186 : (rlOk kind) = true := by first | (simp [ruleP, rlNum, rlCh, rlAx, rlSg, rlOk, inI, icmp, *]; done) | (simp_all [ruleP, rlNum, rlCh, rlAx, rlSg, rlOk, inI, icmp]; done) | (simp only [ruleP, rlNum, rlCh, rlAx, rlSg, rlOk, inI, icmp]; simp_all; omega) | (simp only [ruleP, rlNum, rlCh, rlAx, rlSg, rlOk, inI, icmp]; simp; omega)
    have x187 : (ruleP kind).num = 1 := by first | (simp [ruleP, rlNum, rlCh, rlAx, rlSg, rlOk, inI, icmp, *]; done) | (simp_all [ruleP, rlNum, rlCh, rlAx, rlSg, rlOk, inI, icmp]; done) | (simp only [ruleP, rlNum, rlCh, rlAx, rlSg, rlOk, inI, icmp]; simp_all; omega) | (simp only [ruleP, rlNum, rlCh, rlAx, rlSg, rlOk, inI, icmp]; simp; omega)
    have x188 : (ruleP kind).ch = 1 := by first | (simp [ruleP, rlNum, rlCh, rlAx, rlSg, rlOk, inI, icmp, *]; done) | (simp_all [ruleP, rlNum, rlCh, rlAx, rlSg, rlOk, inI, icmp]; done) | (simp only [ruleP, rlNum, rlCh, rlAx, rlSg, rlOk, inI, icmp]; simp_all; omega) | (simp only [ruleP, rlNum, rlCh, rlAx, rlSg, rlOk, inI, icmp]; simp; omega)
    have x189 : (ruleP kind).ax = true := by first | (simp [ruleP, rlNum, rlCh, rlAx, rlSg, rlOk, inI, icmp, *]; done) | (simp_all [ruleP, rlNum, rlCh, rlAx, rlSg, rlOk, inI, icmp]; done) | (simp only [ruleP, rlNum, rlCh, rlAx, rlSg, rlOk, inI, icmp]; simp_all; omega) | (simp only [ruleP, rlNum, rlCh, rlAx, rlSg, rlOk, inI, icmp]; simp; omega)
    have x190 : (ruleP kind).sg = 2 := by first | (simp [ruleP, rlNum, rlCh, rlAx, rlSg, rlOk, inI, icmp, *]; done) | (simp_all [ruleP, rlNum, rlCh, rlAx, rlSg, rlOk, inI, icmp]; done) | (simp only [ruleP, rlNum, rlCh, rlAx, rlSg, rlOk, inI, icmp]; simp_all; omega) | (simp only [ruleP, rlNum, rlCh, rlAx, rlSg, rlOk, inI, icmp]; simp; omega)
    exact ⟨[(Iv 1), (Iv 1), (Bo true), (Iv 2)], (by first | with_reducible rfl | rw [x186] | rfl), (by first | with_reducible rfl | (show _ = _; simp only [x187, x188, x189, x190]) | rfl)⟩
  have c180' := c180
  (try simp only [icmp, Bool.and_eq_true, Bool.or_eq_true, Bool.and_eq_false_iff, Bool.or_eq_false_iff, Bool.not_eq_true', Bool.not_eq_false', decide_eq_true_eq, decide_eq_false_iff_not, beq_iff_eq, bne_iff_ne, beq_eq_false_iff_ne, bne_eq_false_iff_eq] at c180')
  refine wp_seq_k fun K191 hK191 => ?_
  refine wp_region_lit ?_
  refine q_is rfl rfl (does_icmp (p := kind) (q := 15) (.inl rfl) (ev rfl) (ev rfl)) (by dsimp only [List.set]; try rfl) ?_
  refine q_is rfl rfl (does_assign (u := (Bo (icmp .eql kind 15))) (ev rfl)) (by dsimp only [List.set]; try rfl) ?_
  refine wpList_nil (hK191 _ _ ?_)
  refine wp_cond_split (t := icmp .eql kind 15) (ev rfl) (fun c192 => ?_) (fun c192 => ?_)
  · have c192' := c192
    (try simp only [icmp, Bool.and_eq_true, Bool.or_eq_true, Bool.and_eq_false_iff, Bool.or_eq_false_iff, Bool.not_eq_true', Bool.not_eq_false', decide_eq_true_eq, decide_eq_false_iff_not, beq_iff_eq, bne_iff_ne, beq_eq_false_iff_ne, bne_eq_false_iff_eq] at c192')
    refine wp_seq_k fun K193 hK193 => ?_
    refine wp_region_lit ?_
    refine q_is rfl rfl (does_build (parts' := [(0, (Iv 1)), (1, (Iv 1)), (2, (Bo false)), (3, (Iv 0))]) (cells := #[(Iv 1), (Iv 1), (Bo false), (Iv 0)]) (evp rfl) (by kernel_rfl)) (by dsimp only [List.set]; try rfl) ?_
    refine seqn rfl rfl (does_store (n := 4) (cs := [(Iv 0), (Iv 0), (Bo false), (Iv 0)]) (u := (.agg #[(Iv 1), (Iv 1), (Bo false), (Iv 0)])) (ev rfl) (ev rfl) Try.sizeOf141 rfl hB4 (Nat.le_of_ble_eq_true rfl) rfl) ?_; rintro _ w196 ⟨rfl, W194, hB195⟩
    change Blk _ _ [(Iv 1), (Iv 1), (Bo false), (Iv 0)] at hB195
    have X197 := Below.wr X8 W194 g7
    refine q_is rfl rfl (does_assign (u := (Bo true)) (ev rfl)) (by dsimp only [List.set]; try rfl) ?_
    refine wpList_nil (hK193 _ _ ?_)
    refine wp_ret ?_
    dsimp only [Exit.then, Exit.inBlock]
    refine ret_val (v := (.tuple #[(.agg #[(Iv 1), (Iv 1), (Bo false), (Iv 0)]), (Bo true)])) (res_CT rfl (slot rfl) (run_loadAgg (cs := [(Iv 1), (Iv 1), (Bo false), (Iv 0)]) Try.isAgg141 Try.sizeOf141 (Blk.cells hB195) rfl) (slot rfl)) X197 ?_
    have x198 : (rlOk kind) = true := by first | (simp [ruleP, rlNum, rlCh, rlAx, rlSg, rlOk, inI, icmp, *]; done) | (simp_all [ruleP, rlNum, rlCh, rlAx, rlSg, rlOk, inI, icmp]; done) | (simp only [ruleP, rlNum, rlCh, rlAx, rlSg, rlOk, inI, icmp]; simp_all; omega) | (simp only [ruleP, rlNum, rlCh, rlAx, rlSg, rlOk, inI, icmp]; simp; omega)
    have x199 : (ruleP kind).num = 1 := by first | (simp [ruleP, rlNum, rlCh, rlAx, rlSg, rlOk, inI, icmp, *]; done) | (simp_all [ruleP, rlNum, rlCh, rlAx, rlSg, rlOk, inI, icmp]; done) | (simp only [ruleP, rlNum, rlCh, rlAx, rlSg, rlOk, inI, icmp]; simp_all; omega) | (simp only [ruleP, rlNum, rlCh, rlAx, rlSg, rlOk, inI, icmp]; simp; omega)
    have x200 : (ruleP kind).ch = 1 := by first | (simp [ruleP, rlNum, rlCh, rlAx, rlSg, rlOk, inI, icmp, *]; done) | (simp_all [ruleP, rlNum, rlCh, rlAx, rlSg, rlOk, inI, icmp]; done) | (simp only [ruleP, rlNum, rlCh, rlAx, rlSg, rlOk, inI, icmp]; simp_all; omega) | (simp only [ruleP, rlNum, rlCh, rlAx, rlSg, rlOk, inI, icmp]; simp; omega)
    have x201 : (ruleP kind).ax = false := by first | (simp [ruleP, rlNum, rlCh, rlAx, rlSg, rlOk, inI, icmp, *]; done) | (simp_all [ruleP, rlNum, rlCh, rlAx, rlSg, rlOk, inI, icmp]; done) | (simp only [ruleP, rlNum, rlCh, rlAx, rlSg, rlOk, inI, icmp]; simp_all; omega) | (simp only [ruleP, rlNum, rlCh, rlAx, rlSg, rlOk, inI, icmp]; simp; omega)
    have x202 : (ruleP kind).sg = 0 := by first | (simp [ruleP, rlNum, rlCh, rlAx, rlSg, rlOk, inI, icmp, *]; done) | (simp_all [ruleP, rlNum, rlCh, rlAx, rlSg, rlOk, inI, icmp]; done) | (simp only [ruleP, rlNum, rlCh, rlAx, rlSg, rlOk, inI, icmp]; simp_all; omega) | (simp only [ruleP, rlNum, rlCh, rlAx, rlSg, rlOk, inI, icmp]; simp; omega)
    exact ⟨[(Iv 1), (Iv 1), (Bo false), (Iv 0)], (by first | with_reducible rfl | rw [x198] | rfl), (by first | with_reducible rfl | (show _ = _; simp only [x199, x200, x201, x202]) | rfl)⟩
  have c192' := c192
  (try simp only [icmp, Bool.and_eq_true, Bool.or_eq_true, Bool.and_eq_false_iff, Bool.or_eq_false_iff, Bool.not_eq_true', Bool.not_eq_false', decide_eq_true_eq, decide_eq_false_iff_not, beq_iff_eq, bne_iff_ne, beq_eq_false_iff_ne, bne_eq_false_iff_eq] at c192')
  refine wp_seq_k fun K203 hK203 => ?_
  refine wp_region_lit ?_
  refine q_is rfl rfl (does_icmp (p := kind) (q := 16) (.inl rfl) (ev rfl) (ev rfl)) (by dsimp only [List.set]; try rfl) ?_
  refine q_is rfl rfl (does_assign (u := (Bo (icmp .eql kind 16))) (ev rfl)) (by dsimp only [List.set]; try rfl) ?_
  refine wpList_nil (hK203 _ _ ?_)
  refine wp_cond_split (t := icmp .eql kind 16) (ev rfl) (fun c204 => ?_) (fun c204 => ?_)
  · have c204' := c204
    (try simp only [icmp, Bool.and_eq_true, Bool.or_eq_true, Bool.and_eq_false_iff, Bool.or_eq_false_iff, Bool.not_eq_true', Bool.not_eq_false', decide_eq_true_eq, decide_eq_false_iff_not, beq_iff_eq, bne_iff_ne, beq_eq_false_iff_ne, bne_eq_false_iff_eq] at c204')
    refine wp_seq_k fun K205 hK205 => ?_
    refine wp_region_lit ?_
    refine q_is rfl rfl (does_build (parts' := [(0, (Iv 1)), (1, (Iv 1)), (2, (Bo false)), (3, (Iv 1))]) (cells := #[(Iv 1), (Iv 1), (Bo false), (Iv 1)]) (evp rfl) (by kernel_rfl)) (by dsimp only [List.set]; try rfl) ?_
    refine seqn rfl rfl (does_store (n := 4) (cs := [(Iv 0), (Iv 0), (Bo false), (Iv 0)]) (u := (.agg #[(Iv 1), (Iv 1), (Bo false), (Iv 1)])) (ev rfl) (ev rfl) Try.sizeOf141 rfl hB4 (Nat.le_of_ble_eq_true rfl) rfl) ?_; rintro _ w208 ⟨rfl, W206, hB207⟩
    change Blk _ _ [(Iv 1), (Iv 1), (Bo false), (Iv 1)] at hB207
    have X209 := Below.wr X8 W206 g7
    refine q_is rfl rfl (does_assign (u := (Bo true)) (ev rfl)) (by dsimp only [List.set]; try rfl) ?_
    refine wpList_nil (hK205 _ _ ?_)
    refine wp_ret ?_
    dsimp only [Exit.then, Exit.inBlock]
    refine ret_val (v := (.tuple #[(.agg #[(Iv 1), (Iv 1), (Bo false), (Iv 1)]), (Bo true)])) (res_CT rfl (slot rfl) (run_loadAgg (cs := [(Iv 1), (Iv 1), (Bo false), (Iv 1)]) Try.isAgg141 Try.sizeOf141 (Blk.cells hB207) rfl) (slot rfl)) X209 ?_
    have x210 : (rlOk kind) = true := by first | (simp [ruleP, rlNum, rlCh, rlAx, rlSg, rlOk, inI, icmp, *]; done) | (simp_all [ruleP, rlNum, rlCh, rlAx, rlSg, rlOk, inI, icmp]; done) | (simp only [ruleP, rlNum, rlCh, rlAx, rlSg, rlOk, inI, icmp]; simp_all; omega) | (simp only [ruleP, rlNum, rlCh, rlAx, rlSg, rlOk, inI, icmp]; simp; omega)
    have x211 : (ruleP kind).num = 1 := by first | (simp [ruleP, rlNum, rlCh, rlAx, rlSg, rlOk, inI, icmp, *]; done) | (simp_all [ruleP, rlNum, rlCh, rlAx, rlSg, rlOk, inI, icmp]; done) | (simp only [ruleP, rlNum, rlCh, rlAx, rlSg, rlOk, inI, icmp]; simp_all; omega) | (simp only [ruleP, rlNum, rlCh, rlAx, rlSg, rlOk, inI, icmp]; simp; omega)
    have x212 : (ruleP kind).ch = 1 := by first | (simp [ruleP, rlNum, rlCh, rlAx, rlSg, rlOk, inI, icmp, *]; done) | (simp_all [ruleP, rlNum, rlCh, rlAx, rlSg, rlOk, inI, icmp]; done) | (simp only [ruleP, rlNum, rlCh, rlAx, rlSg, rlOk, inI, icmp]; simp_all; omega) | (simp only [ruleP, rlNum, rlCh, rlAx, rlSg, rlOk, inI, icmp]; simp; omega)
    have x213 : (ruleP kind).ax = false := by first | (simp [ruleP, rlNum, rlCh, rlAx, rlSg, rlOk, inI, icmp, *]; done) | (simp_all [ruleP, rlNum, rlCh, rlAx, rlSg, rlOk, inI, icmp]; done) | (simp only [ruleP, rlNum, rlCh, rlAx, rlSg, rlOk, inI, icmp]; simp_all; omega) | (simp only [ruleP, rlNum, rlCh, rlAx, rlSg, rlOk, inI, icmp]; simp; omega)
    have x214 : (ruleP kind).sg = 1 := by first | (simp [ruleP, rlNum, rlCh, rlAx, rlSg, rlOk, inI, icmp, *]; done) | (simp_all [ruleP, rlNum, rlCh, rlAx, rlSg, rlOk, inI, icmp]; done) | (simp only [ruleP, rlNum, rlCh, rlAx, rlSg, rlOk, inI, icmp]; simp_all; omega) | (simp only [ruleP, rlNum, rlCh, rlAx, rlSg, rlOk, inI, icmp]; simp; omega)
    exact ⟨[(Iv 1), (Iv 1), (Bo false), (Iv 1)], (by first | with_reducible rfl | rw [x210] | rfl), (by first | with_reducible rfl | (show _ = _; simp only [x211, x212, x213, x214]) | rfl)⟩
  have c204' := c204
  (try simp only [icmp, Bool.and_eq_true, Bool.or_eq_true, Bool.and_eq_false_iff, Bool.or_eq_false_iff, Bool.not_eq_true', Bool.not_eq_false', decide_eq_true_eq, decide_eq_false_iff_not, beq_iff_eq, bne_iff_ne, beq_eq_false_iff_ne, bne_eq_false_iff_eq] at c204')
  refine wp_skip (hK9 _ _ ?_)
  refine wp_seq_k fun K215 hK215 => ?_
  refine wp_region_lit ?_
  refine q_is rfl rfl (does_build (parts' := []) (cells := #[(Iv 0), (Iv 0), (Bo false), (Iv 0)]) (evp rfl) (by kernel_rfl)) (by dsimp only [List.set]; try rfl) ?_
  refine seqn rfl rfl (does_store (n := 4) (cs := [(Iv 0), (Iv 0), (Bo false), (Iv 0)]) (u := (.agg #[(Iv 0), (Iv 0), (Bo false), (Iv 0)])) (ev rfl) (ev rfl) Try.sizeOf141 rfl hB4 (Nat.le_of_ble_eq_true rfl) rfl) ?_; rintro _ w218 ⟨rfl, W216, hB217⟩
  change Blk _ _ [(Iv 0), (Iv 0), (Bo false), (Iv 0)] at hB217
  have X219 := Below.wr X8 W216 g7
  refine q_is rfl rfl (does_assign (u := (Bo false)) (ev rfl)) (by dsimp only [List.set]; try rfl) ?_
  refine wpList_nil (hK215 _ _ ?_)
  refine wp_ret ?_
  refine ret_val (v := (.tuple #[(.agg #[(Iv 0), (Iv 0), (Bo false), (Iv 0)]), (Bo false)])) (res_CT rfl (slot rfl) (run_loadAgg (cs := [(Iv 0), (Iv 0), (Bo false), (Iv 0)]) Try.isAgg141 Try.sizeOf141 (Blk.cells hB217) rfl) (slot rfl)) X219 ?_
  have x220 : (rlOk kind) = false := by first | (simp [ruleP, rlNum, rlCh, rlAx, rlSg, rlOk, inI, icmp, *]; done) | (simp_all [ruleP, rlNum, rlCh, rlAx, rlSg, rlOk, inI, icmp]; done) | (simp only [ruleP, rlNum, rlCh, rlAx, rlSg, rlOk, inI, icmp]; simp_all; omega) | (simp only [ruleP, rlNum, rlCh, rlAx, rlSg, rlOk, inI, icmp]; simp; omega)
  have x221 : (ruleP kind).num = 0 := by first | (simp [ruleP, rlNum, rlCh, rlAx, rlSg, rlOk, inI, icmp, *]; done) | (simp_all [ruleP, rlNum, rlCh, rlAx, rlSg, rlOk, inI, icmp]; done) | (simp only [ruleP, rlNum, rlCh, rlAx, rlSg, rlOk, inI, icmp]; simp_all; omega) | (simp only [ruleP, rlNum, rlCh, rlAx, rlSg, rlOk, inI, icmp]; simp; omega)
  have x222 : (ruleP kind).ch = 0 := by first | (simp [ruleP, rlNum, rlCh, rlAx, rlSg, rlOk, inI, icmp, *]; done) | (simp_all [ruleP, rlNum, rlCh, rlAx, rlSg, rlOk, inI, icmp]; done) | (simp only [ruleP, rlNum, rlCh, rlAx, rlSg, rlOk, inI, icmp]; simp_all; omega) | (simp only [ruleP, rlNum, rlCh, rlAx, rlSg, rlOk, inI, icmp]; simp; omega)
  have x223 : (ruleP kind).ax = false := by first | (simp [ruleP, rlNum, rlCh, rlAx, rlSg, rlOk, inI, icmp, *]; done) | (simp_all [ruleP, rlNum, rlCh, rlAx, rlSg, rlOk, inI, icmp]; done) | (simp only [ruleP, rlNum, rlCh, rlAx, rlSg, rlOk, inI, icmp]; simp_all; omega) | (simp only [ruleP, rlNum, rlCh, rlAx, rlSg, rlOk, inI, icmp]; simp; omega)
  have x224 : (ruleP kind).sg = 0 := by first | (simp [ruleP, rlNum, rlCh, rlAx, rlSg, rlOk, inI, icmp, *]; done) | (simp_all [ruleP, rlNum, rlCh, rlAx, rlSg, rlOk, inI, icmp]; done) | (simp only [ruleP, rlNum, rlCh, rlAx, rlSg, rlOk, inI, icmp]; simp_all; omega) | (simp only [ruleP, rlNum, rlCh, rlAx, rlSg, rlOk, inI, icmp]; simp; omega)
  exact ⟨[(Iv 0), (Iv 0), (Bo false), (Iv 0)], (by first | with_reducible rfl | rw [x220] | rfl), (by first | with_reducible rfl | (show _ = _; simp only [x221, x222, x223, x224]) | rfl)⟩

/- impl.numbersOk$1 -/
theorem c_impl_numbersOk_1 (x : Nat) (r_b : Nat) (r_o : Nat) (r : List Value) (A_r : RuleT) (w : World) (hc_r : Cells w r_b r_o r) (hv_r : RRuleT w A_r r) : Gives Try.prog 87 #[(Fl x), (Pt r_b r_o)] w (fun v w' => v = (Bo ((A_r.sg == 1 && lssF (cf .f32 x)) || (A_r.sg == 2 && leqF (cf .f32 x))))) := by
  obtain rfl := hv_r
  refine enter [(Fl x), (Pt r_b r_o), Ud, Ud, Ud, Ud, Ud, Ud, Ud, Ud, Ud, Ud, Ud, Ud, Ud, Ud, Ud, Ud, Ud, Ud] Try.func87 rfl Try.ntmps87 rfl ?_
  refine wp_seq_k fun K1 hK1 => ?_
  refine wp_region_lit ?_
  refine q_is (l' := [(Fl x), (Pt r_b r_o), Ud, (Bo false), Ud, Ud, Ud, Ud, Ud, Ud, Ud, Ud, Ud, Ud, Ud, Ud, Ud, Ud, Ud, Ud]) rfl rfl (does_assign (u := (Bo false)) (ev rfl)) rfl ?_
  refine wpList_nil (hK1 _ _ ?_)
  refine wp_seq_k fun K2 hK2 => ?_
  obtain ⟨β1, hβ1⟩ : ∃ b : Bool, b = (fcmp .lss (ford .f32 (cf .f32 x) (cf .f32 0))) := ⟨_, rfl⟩
  obtain ⟨β2, hβ2⟩ : ∃ b : Bool, b = ((icmp .eql A_r.sg 1) && β1) := ⟨_, rfl⟩
  obtain ⟨β3, hβ3⟩ : ∃ b : Bool, b = (fcmp .leq (ford .f32 (cf .f32 x) (cf .f32 0))) := ⟨_, rfl⟩
  obtain ⟨β4, hβ4⟩ : ∃ b : Bool, b = ((icmp .eql A_r.sg 2) && β3) := ⟨_, rfl⟩
  refine region_text (
    [Fact.pure [] (fun v => v = (Pt r_b (r_o + 3))),
    Fact.pure [4] (fun v => v = (Iv A_r.sg)),
    Fact.pure [5] (fun v => v = (Bo (icmp .eql A_r.sg 1))),
    Fact.pure [6] (fun v => v = (Bo (icmp .eql A_r.sg 1))),
    Fact.pure [7] (fun v => (icmp .eql A_r.sg 1) = true → v = (Fl x)),
    Fact.pure [8, 7] (fun v => (icmp .eql A_r.sg 1) = true → v = (Bo β1)),
    Fact.pure [7, 9] (fun v => v = (Bo β2)),
    Fact.pure [10] (fun v => v = (Bo β2)),
    Fact.pure [11] (fun v => β2 = false → v = (Pt r_b (r_o + 3))),
    Fact.pure [12, 11] (fun v => β2 = false → v = (Iv A_r.sg)),
    Fact.pure [13, 11] (fun v => β2 = false → v = (Bo (icmp .eql A_r.sg 2))),
    Fact.pure [14, 11] (fun v => (β2 = false → v = (Bo (icmp .eql A_r.sg 2))) ∧ (¬ (β2 = false) → v = undef)),
    Fact.pure [15] (fun v => β2 = false → (icmp .eql A_r.sg 2) = true → v = (Fl x)),
    Fact.pure [16, 15] (fun v => β2 = false → (icmp .eql A_r.sg 2) = true → v = (Bo β3)),
    Fact.pure [15, 17, 11] (fun v => β2 = false → v = (Bo β4)),
    Fact.pure [11, 18] (fun v => v = (Bo (β2 || β4)))]) (by simp [Fact.pure, Fact.mem]) ?_
  refine RW_d (fun v3 => [(Fl x), (Pt r_b r_o), Ud, (Bo false), v3, Ud, Ud, Ud, Ud, Ud, Ud, Ud, Ud, Ud, Ud, Ud, Ud, Ud, Ud, Ud]) rfl (fun _ => rfl) (fun u hu hF => ?_) (fun v3 => ?_)
  · clear hF
    refine doesG_un rfl ?_
    refine (does_fieldAddr (ev rfl) fa141_3).mono ?_; rintro _ _ ⟨rfl, rfl⟩
    exact ⟨rfl, Ext.refl _⟩
  refine RW_d (fun v4 => [(Fl x), (Pt r_b r_o), Ud, (Bo false), v3, v4, Ud, Ud, Ud, Ud, Ud, Ud, Ud, Ud, Ud, Ud, Ud, Ud, Ud, Ud]) rfl (fun _ => rfl) (fun u hu hF => ?_) (fun v4 => ?_)
  · have h4_ : v3 = (Pt r_b (r_o + 3)) := hF.1
    clear hF
    refine doesG_un rfl ?_
    obtain rfl := h4_
    refine (does_load (u := (Iv A_r.sg)) (ev rfl) Try.isAgg3 (Cells.at (hc_r.ext hu) 3 rfl)).mono ?_; rintro _ _ ⟨rfl, rfl⟩
    exact ⟨rfl, Ext.refl _⟩
  refine RW_d (fun v5 => [(Fl x), (Pt r_b r_o), Ud, (Bo false), v3, v4, v5, Ud, Ud, Ud, Ud, Ud, Ud, Ud, Ud, Ud, Ud, Ud, Ud, Ud]) rfl (fun _ => rfl) (fun u hu hF => ?_) (fun v5 => ?_)
  · have h5_ : v4 = (Iv A_r.sg) := hF.1
    clear hF
    refine doesG_un rfl ?_
    obtain rfl := h5_
    refine (does_icmp (p := A_r.sg) (q := 1) (.inl rfl) (ev rfl) (ev rfl)).mono ?_; rintro _ _ ⟨rfl, rfl⟩
    exact ⟨rfl, Ext.refl _⟩
  refine RW_d (fun v6 => [(Fl x), (Pt r_b r_o), Ud, (Bo false), v3, v4, v5, v6, Ud, Ud, Ud, Ud, Ud, Ud, Ud, Ud, Ud, Ud, Ud, Ud]) rfl (fun _ => rfl) (fun u hu hF => ?_) (fun v6 => ?_)
  · have h6_ : v5 = (Bo (icmp .eql A_r.sg 1)) := hF.1
    clear hF
    refine doesG_un rfl ?_
    obtain rfl := h6_
    refine (does_move (u := (Bo (icmp .eql A_r.sg 1))) (ev rfl)).mono ?_; rintro _ _ ⟨rfl, rfl⟩
    exact ⟨rfl, Ext.refl _⟩
  refine RW_d (fun v7 => [(Fl x), (Pt r_b r_o), Ud, (Bo false), v3, v4, v5, v6, v7, Ud, Ud, Ud, Ud, Ud, Ud, Ud, Ud, Ud, Ud, Ud]) rfl (fun _ => rfl) (fun u hu hF => ?_) (fun v7 => ?_)
  · have h7_ : v6 = (Bo (icmp .eql A_r.sg 1)) := hF.1
    clear hF
    obtain rfl := h7_
    refine doesG_g (b := (icmp .eql A_r.sg 1)) rfl (yld rfl rfl) (fun hg1 => ?_) (fun hc => ⟨fun hg1 => absurd hg1 hc, Ext.refl _⟩)
    refine (does_move (u := (Fl x)) (ev rfl)).mono ?_; rintro _ _ ⟨rfl, rfl⟩
    exact ⟨fun _ => rfl, Ext.refl _⟩
  refine RW_d (fun v8 => [(Fl x), (Pt r_b r_o), Ud, (Bo false), v3, v4, v5, v6, v7, v8, Ud, Ud, Ud, Ud, Ud, Ud, Ud, Ud, Ud, Ud]) rfl (fun _ => rfl) (fun u hu hF => ?_) (fun v8 => ?_)
  · have h8_ : (icmp .eql A_r.sg 1) = true → v7 = (Fl x) := hF.1
    have h7_ : v6 = (Bo (icmp .eql A_r.sg 1)) := hF.2.1
    clear hF
    obtain rfl := h7_
    refine doesG_g (b := (icmp .eql A_r.sg 1)) rfl (yld rfl rfl) (fun hg1 => ?_) (fun hc => ⟨fun hg1 => absurd hg1 hc, Ext.refl _⟩)
    obtain rfl := h8_ hg1
    refine (does_fcmp (.inr (.inr (.inl rfl))) (ev rfl) (ev rfl)).mono ?_; rintro _ _ ⟨rfl, rfl⟩
    exact ⟨fun _ => (by first | rfl | (show _ = _; simp only [hβ1]; done) | (show _ = _; simp only [hβ1]; rfl)), Ext.refl _⟩
  refine RW_d (fun v9 => [(Fl x), (Pt r_b r_o), Ud, (Bo false), v3, v4, v5, v6, v7, v8, v9, Ud, Ud, Ud, Ud, Ud, Ud, Ud, Ud, Ud]) rfl (fun _ => rfl) (fun u hu hF => ?_) (fun v9 => ?_)
  · have h7_ : v6 = (Bo (icmp .eql A_r.sg 1)) := hF.1
    have h9_ : (icmp .eql A_r.sg 1) = true → v8 = (Bo β1) := hF.2.1
    clear hF
    refine doesG_un rfl ?_
    skip
    obtain rfl := h7_
    refine (does_pick (b := (icmp .eql A_r.sg 1)) (u := v8) (v := (Bo false)) (ev rfl) (ev rfl) (ev rfl)).mono ?_; rintro _ _ ⟨rfl, rfl⟩; refine ⟨?_, Ext.refl _⟩; rw [hβ2]; skip
    cases hbb : (icmp .eql A_r.sg 1)
    all_goals first | (show _ = _; simp only [↓reduceIte, Bool.true_and, Bool.false_and, Bool.true_or, Bool.false_or, Bool.false_eq_true]; done) | (have e_ := h9_ hbb; subst e_; show _ = _; simp only [↓reduceIte, Bool.true_and, Bool.false_and, Bool.true_or, Bool.false_or, Bool.false_eq_true]; done) | rfl | (have e_ := h9_ hbb; subst e_; rfl) | (simp [hbb] at h9_ ⊢; first | done | rfl | (subst h9_; rfl) | simp_all) | (simp [hbb] at h9_ ⊢; done)
  refine RW_d (fun v10 => [(Fl x), (Pt r_b r_o), Ud, (Bo false), v3, v4, v5, v6, v7, v8, v9, v10, Ud, Ud, Ud, Ud, Ud, Ud, Ud, Ud]) rfl (fun _ => rfl) (fun u hu hF => ?_) (fun v10 => ?_)
  · have h10_ : v9 = (Bo β2) := hF.1
    clear hF
    refine doesG_un rfl ?_
    obtain rfl := h10_
    refine (does_move (u := (Bo β2)) (ev rfl)).mono ?_; rintro _ _ ⟨rfl, rfl⟩
    exact ⟨rfl, Ext.refl _⟩
  refine RW_d (fun v11 => [(Fl x), (Pt r_b r_o), Ud, (Bo false), v3, v4, v5, v6, v7, v8, v9, v10, v11, Ud, Ud, Ud, Ud, Ud, Ud, Ud]) rfl (fun _ => rfl) (fun u hu hF => ?_) (fun v11 => ?_)
  · have h11_ : v10 = (Bo β2) := hF.1
    clear hF
    obtain rfl := h11_
    refine doesG_g (b := β2) rfl (yld rfl rfl) (fun hg1 => ?_) (fun hc => ⟨fun hg1 => absurd hg1 hc, Ext.refl _⟩)
    refine (does_fieldAddr (ev rfl) fa141_3).mono ?_; rintro _ _ ⟨rfl, rfl⟩
    exact ⟨fun _ => rfl, Ext.refl _⟩
  refine RW_d (fun v12 => [(Fl x), (Pt r_b r_o), Ud, (Bo false), v3, v4, v5, v6, v7, v8, v9, v10, v11, v12, Ud, Ud, Ud, Ud, Ud, Ud]) rfl (fun _ => rfl) (fun u hu hF => ?_) (fun v12 => ?_)
  · have h12_ : β2 = false → v11 = (Pt r_b (r_o + 3)) := hF.1
    have h11_ : v10 = (Bo β2) := hF.2.1
    clear hF
    obtain rfl := h11_
    refine doesG_g (b := β2) rfl (yld rfl rfl) (fun hg1 => ?_) (fun hc => ⟨fun hg1 => absurd hg1 hc, Ext.refl _⟩)
    obtain rfl := h12_ hg1
    refine (does_load (u := (Iv A_r.sg)) (ev rfl) Try.isAgg3 (Cells.at (hc_r.ext hu) 3 rfl)).mono ?_; rintro _ _ ⟨rfl, rfl⟩
    exact ⟨fun _ => rfl, Ext.refl _⟩
  refine RW_d (fun v13 => [(Fl x), (Pt r_b r_o), Ud, (Bo false), v3, v4, v5, v6, v7, v8, v9, v10, v11, v12, v13, Ud, Ud, Ud, Ud, Ud]) rfl (fun _ => rfl) (fun u hu hF => ?_) (fun v13 => ?_)
  · have h13_ : β2 = false → v12 = (Iv A_r.sg) := hF.1
    have h11_ : v10 = (Bo β2) := hF.2.1
    clear hF
    obtain rfl := h11_
    refine doesG_g (b := β2) rfl (yld rfl rfl) (fun hg1 => ?_) (fun hc => ⟨fun hg1 => absurd hg1 hc, Ext.refl _⟩)
    obtain rfl := h13_ hg1
    refine (does_icmp (p := A_r.sg) (q := 2) (.inl rfl) (ev rfl) (ev rfl)).mono ?_; rintro _ _ ⟨rfl, rfl⟩
    exact ⟨fun _ => rfl, Ext.refl _⟩
  refine RW_d (fun v14 => [(Fl x), (Pt r_b r_o), Ud, (Bo false), v3, v4, v5, v6, v7, v8, v9, v10, v11, v12, v13, v14, Ud, Ud, Ud, Ud]) rfl (fun _ => rfl) (fun u hu hF => ?_) (fun v14 => ?_)
  · have h14_ : β2 = false → v13 = (Bo (icmp .eql A_r.sg 2)) := hF.1
    have h11_ : v10 = (Bo β2) := hF.2.1
    clear hF
    obtain rfl := h11_
    refine doesG_g (b := β2) rfl (yld rfl rfl) (fun hg1 => ?_) (fun hc => ⟨⟨fun hg1 => absurd hg1 hc, fun _ => rfl⟩, Ext.refl _⟩)
    obtain rfl := h14_ hg1
    refine (does_move (u := (Bo (icmp .eql A_r.sg 2))) (ev rfl)).mono ?_; rintro _ _ ⟨rfl, rfl⟩
    exact ⟨⟨fun _ => rfl, fun hn => absurd hg1 hn⟩, Ext.refl _⟩
  refine RW_d (fun v15 => [(Fl x), (Pt r_b r_o), Ud, (Bo false), v3, v4, v5, v6, v7, v8, v9, v10, v11, v12, v13, v14, v15, Ud, Ud, Ud]) rfl (fun _ => rfl) (fun u hu hF => ?_) (fun v15 => ?_)
  · have h15_ : (β2 = false → v14 = (Bo (icmp .eql A_r.sg 2))) ∧ (¬ (β2 = false) → v14 = undef) := hF.1; have h15u := h15_.2; replace h15_ := h15_.1
    clear hF
    refine doesG_gg (b := (icmp .eql A_r.sg 2)) (c := β2 = false) rfl (fun hc => ?_) (fun hc => ?_) (fun hc hg2 => ?_) (fun hc => ⟨fun hg1 hg2 => absurd ⟨hg1, hg2⟩ hc, Ext.refl _⟩)
    · have hg1 := hc; obtain rfl := h15_ hg1; exact yld rfl rfl
    · obtain rfl := h15u hc; exact yldn rfl rfl
    have hg1 := hc
    obtain rfl := h15_ hg1
    refine (does_move (u := (Fl x)) (ev rfl)).mono ?_; rintro _ _ ⟨rfl, rfl⟩
    exact ⟨fun _ _ => rfl, Ext.refl _⟩
  refine RW_d (fun v16 => [(Fl x), (Pt r_b r_o), Ud, (Bo false), v3, v4, v5, v6, v7, v8, v9, v10, v11, v12, v13, v14, v15, v16, Ud, Ud]) rfl (fun _ => rfl) (fun u hu hF => ?_) (fun v16 => ?_)
  · have h16_ : β2 = false → (icmp .eql A_r.sg 2) = true → v15 = (Fl x) := hF.1
    have h15_ : (β2 = false → v14 = (Bo (icmp .eql A_r.sg 2))) ∧ (¬ (β2 = false) → v14 = undef) := hF.2.1; have h15u := h15_.2; replace h15_ := h15_.1
    clear hF
    refine doesG_gg (b := (icmp .eql A_r.sg 2)) (c := β2 = false) rfl (fun hc => ?_) (fun hc => ?_) (fun hc hg2 => ?_) (fun hc => ⟨fun hg1 hg2 => absurd ⟨hg1, hg2⟩ hc, Ext.refl _⟩)
    · have hg1 := hc; obtain rfl := h15_ hg1; exact yld rfl rfl
    · obtain rfl := h15u hc; exact yldn rfl rfl
    have hg1 := hc
    obtain rfl := h15_ hg1
    obtain rfl := h16_ hg1 hg2
    refine (does_fcmp (.inr (.inr (.inr (.inl rfl)))) (ev rfl) (ev rfl)).mono ?_; rintro _ _ ⟨rfl, rfl⟩
    exact ⟨fun _ _ => (by first | rfl | (show _ = _; simp only [hβ3]; done) | (show _ = _; simp only [hβ3]; rfl)), Ext.refl _⟩
  refine RW_d (fun v17 => [(Fl x), (Pt r_b r_o), Ud, (Bo false), v3, v4, v5, v6, v7, v8, v9, v10, v11, v12, v13, v14, v15, v16, v17, Ud]) rfl (fun _ => rfl) (fun u hu hF => ?_) (fun v17 => ?_)
  · have h15_ : (β2 = false → v14 = (Bo (icmp .eql A_r.sg 2))) ∧ (¬ (β2 = false) → v14 = undef) := hF.1; have h15u := h15_.2; replace h15_ := h15_.1
    have h17_ : β2 = false → (icmp .eql A_r.sg 2) = true → v16 = (Bo β3) := hF.2.1
    have h11_ : v10 = (Bo β2) := hF.2.2.1
    clear hF
    obtain rfl := h11_
    refine doesG_g (b := β2) rfl (yld rfl rfl) (fun hg1 => ?_) (fun hc => ⟨fun hg1 => absurd hg1 hc, Ext.refl _⟩)
    skip
    obtain rfl := h15_ hg1
    replace h17_ := h17_ hg1
    refine (does_pick (b := (icmp .eql A_r.sg 2)) (u := v16) (v := (Bo false)) (ev rfl) (ev rfl) (ev rfl)).mono ?_; rintro _ _ ⟨rfl, rfl⟩; refine ⟨fun _ => ?_, Ext.refl _⟩; rw [hβ4]; skip
    cases hbb : (icmp .eql A_r.sg 2)
    all_goals first | (show _ = _; simp only [↓reduceIte, Bool.true_and, Bool.false_and, Bool.true_or, Bool.false_or, Bool.false_eq_true]; done) | (have e_ := h17_ hbb; subst e_; show _ = _; simp only [↓reduceIte, Bool.true_and, Bool.false_and, Bool.true_or, Bool.false_or, Bool.false_eq_true]; done) | rfl | (have e_ := h17_ hbb; subst e_; rfl) | (simp [hbb] at h17_ ⊢; first | done | rfl | (subst h17_; rfl) | simp_all) | (simp [hbb] at h17_ ⊢; done)
  refine RW_d (fun v18 => [(Fl x), (Pt r_b r_o), Ud, (Bo false), v3, v4, v5, v6, v7, v8, v9, v10, v11, v12, v13, v14, v15, v16, v17, v18]) rfl (fun _ => rfl) (fun u hu hF => ?_) (fun v18 => ?_)
  · have h11_ : v10 = (Bo β2) := hF.1
    have h18_ : β2 = false → v17 = (Bo β4) := hF.2.1
    clear hF
    refine doesG_un rfl ?_
    skip
    obtain rfl := h11_
    refine (does_pick (b := β2) (u := (Bo true)) (v := v17) (ev rfl) (ev rfl) (ev rfl)).mono ?_; rintro _ _ ⟨rfl, rfl⟩; refine ⟨?_, Ext.refl _⟩; skip
    cases hbb : β2
    all_goals first | (show _ = _; simp only [↓reduceIte, Bool.true_and, Bool.false_and, Bool.true_or, Bool.false_or, Bool.false_eq_true]; done) | (have e_ := h18_ hbb; subst e_; show _ = _; simp only [↓reduceIte, Bool.true_and, Bool.false_and, Bool.true_or, Bool.false_or, Bool.false_eq_true]; done) | rfl | (have e_ := h18_ hbb; subst e_; rfl) | (simp [hbb] at h18_ ⊢; first | done | rfl | (subst h18_; rfl) | simp_all) | (simp [hbb] at h18_ ⊢; done)
  refine RW_fin ?_; intro w19 E20 hP21
  obtain ⟨⟨⟨⟨⟨⟨⟨⟨⟨⟨⟨⟨⟨⟨⟨⟨-, -⟩, -⟩, -⟩, -⟩, -⟩, -⟩, -⟩, -⟩, -⟩, -⟩, -⟩, -⟩, -⟩, -⟩, -⟩, q22⟩ := hP21
  have X23 := Ext.gr (Ext.refl w) E20
  have q22 : v18 = (Bo (β2 || β4)) := q22
  obtain rfl := q22
  show wpList _ _ _ _ (fr [(Fl x), (Pt r_b r_o), Ud, (Bo false), v3, v4, v5, v6, v7, v8, v9, v10, v11, v12, v13, v14, v15, v16, v17, (Bo (β2 || β4))]) _
  refine q_is (l' := [(Fl x), (Pt r_b r_o), Ud, (Bo (β2 || β4)), v3, v4, v5, v6, v7, v8, v9, v10, v11, v12, v13, v14, v15, v16, v17, (Bo (β2 || β4))]) rfl rfl (does_assign (u := (Bo (β2 || β4))) (ev rfl)) rfl ?_
  refine wpList_nil (hK2 _ _ ?_)
  refine wp_ret ?_
  refine ret_val (v := (Bo (β2 || β4))) (res_T rfl (slot rfl)) X23 ?_
  have x24 : ((A_r.sg == 1 && lssF (cf .f32 x)) || (A_r.sg == 2 && leqF (cf .f32 x))) = (β2 || β4) := by first | with_reducible rfl | (simp only [lssF, leqF, icmp, hβ1, hβ2, hβ3, hβ4]; done) | (simp [lssF, leqF, icmp, hβ1, hβ2, hβ3, hβ4]; done) | rfl
  exact (by first | with_reducible rfl | rw [x24] | rfl)

/- impl.numbersOk -/
theorem c_impl_numbersOk (kind : Int) (nums : Value) (L_nums : List Nat) (w : World) (hv_nums : Sl RF 1 w nums L_nums) : Gives Try.prog 56 #[(Iv kind), nums] w (fun v w' => v = (Bo (rlOk kind && nodeNums kind L_nums))) := by
  have hlen_nums := Sl.len hv_nums; obtain ⟨p_nums, q_nums, rfl⟩ := Sl.shape hv_nums
  refine enter [(Iv kind), (.slice p_nums L_nums.length q_nums), Ud, Ud, Ud, Ud, Ud, Ud, Ud, Ud, Ud, Ud, Ud, Ud, Ud, Ud, Ud, Ud, Ud, Ud, Ud, Ud, Ud, Ud, Ud, Ud, Ud, Ud, Ud, Ud] Try.func56 rfl Try.ntmps56 rfl ?_
  refine wp_seq_k fun K1 hK1 => ?_
  refine wp_region_lit ?_
  refine q_is rfl rfl (does_assign (u := (Bo false)) (ev rfl)) (by dsimp only [List.set]; try rfl) ?_
  refine wpList_nil (hK1 _ _ ?_)
  refine wp_seq_k fun K2 hK2 => ?_
  refine wp_region_lit ?_
  refine q_is rfl rfl (does_move (u := (Iv kind)) (ev rfl)) (by dsimp only [List.set]; try rfl) ?_
  refine seqd rfl rfl (does_call (args := #[(Iv kind)]) cal85 (evs rfl) (c_impl_ruleOf kind _)) ?_; rintro _ w4 ⟨E3, ⟨_, rfl, rfl⟩⟩
  have X5 := Ext.gr (Ext.refl w) E3
  show wpList _ _ _ _ (fr [_, _, _, _, _, _, _, _, _, _, _, _, _, _, _, _, _, _, _, _, _, _, _, _, _, _, _, _, _, _]) _
  refine q_is rfl rfl (does_move (u := (.tuple #[(.agg #[(Iv ((ruleP kind).num)), (Iv ((ruleP kind).ch)), (Bo ((ruleP kind).ax)), (Iv ((ruleP kind).sg))]), (Bo (rlOk kind))])) (ev rfl)) (by dsimp only [List.set]; try rfl) ?_
  refine q_is rfl rfl (does_extract (vs := #[(.agg #[(Iv ((ruleP kind).num)), (Iv ((ruleP kind).ch)), (Bo ((ruleP kind).ax)), (Iv ((ruleP kind).sg))]), (Bo (rlOk kind))]) (u := (.agg #[(Iv ((ruleP kind).num)), (Iv ((ruleP kind).ch)), (Bo ((ruleP kind).ax)), (Iv ((ruleP kind).sg))])) (ev rfl) rfl) (by dsimp only [List.set]; try rfl) ?_
  refine q_is rfl rfl (does_extract (vs := #[(.agg #[(Iv ((ruleP kind).num)), (Iv ((ruleP kind).ch)), (Bo ((ruleP kind).ax)), (Iv ((ruleP kind).sg))]), (Bo (rlOk kind))]) (u := (Bo (rlOk kind))) (ev rfl) rfl) (by dsimp only [List.set]; try rfl) ?_
  refine seqd rfl rfl (does_alloc z141) ?_; rintro _ w10 ⟨b6, rfl, hb7, hB8, E9⟩
  have g11 : w.heap.size ≤ b6 := Nat.le_trans (Below.size X5) hb7
  change Blk _ _ [(Iv 0), (Iv 0), (Bo false), (Iv 0)] at hB8
  have X12 := Ext.gr X5 E9
  show wpList _ _ _ _ (fr [_, _, _, _, _, _, _, _, _, _, _, _, _, _, _, _, _, _, _, _, _, _, _, _, _, _, _, _, _, _]) _
  refine seqn rfl rfl (does_store (n := 4) (cs := [(Iv 0), (Iv 0), (Bo false), (Iv 0)]) (u := (.agg #[(Iv ((ruleP kind).num)), (Iv ((ruleP kind).ch)), (Bo ((ruleP kind).ax)), (Iv ((ruleP kind).sg))])) (ev rfl) (ev rfl) Try.sizeOf141 rfl hB8 (Nat.le_of_ble_eq_true rfl) rfl) ?_; rintro _ w15 ⟨rfl, W13, hB14⟩
  change Blk _ _ [(Iv ((ruleP kind).num)), (Iv ((ruleP kind).ch)), (Bo ((ruleP kind).ax)), (Iv ((ruleP kind).sg))] at hB14
  have X16 := Below.wr X12 W13 g11
  refine q_is rfl rfl (does_assign (u := (Bo (rlOk kind))) (ev rfl)) (by dsimp only [List.set]; try rfl) ?_
  refine wpList_nil (hK2 _ _ ?_)
  refine wp_seq_k fun K17 hK17 => ?_
  refine wp_seq_k fun K18 hK18 => ?_
  obtain ⟨β1, hβ1⟩ : ∃ b : Bool, b = (icmp .neq (L_nums.length : Int) ((ruleP kind).num)) := ⟨_, rfl⟩
  obtain ⟨β2, hβ2⟩ : ∃ b : Bool, b = (!L_nums.any (fun x => !finF x)) := ⟨_, rfl⟩
  obtain ⟨β3, hβ3⟩ : ∃ b : Bool, b = (((!(rlOk kind)) || β1) || (!β2)) := ⟨_, rfl⟩
  refine region_text (
    [Fact.pure [] (fun v => v = (Bo (rlOk kind))),
    Fact.pure [12] (fun v => v = (Bo (!(rlOk kind)))),
    Fact.pure [13] (fun v => v = (Bo (!(rlOk kind)))),
    Fact.pure [14] (fun v => (!(rlOk kind)) = false → v = (.slice p_nums L_nums.length q_nums)),
    Fact.pure [15, 14] (fun v => (!(rlOk kind)) = false → v = (Iv (L_nums.length : Int))),
    Fact.pure [14] (fun v => (!(rlOk kind)) = false → v = (Pt b6 0)),
    Fact.pure [17, 14] (fun v => (!(rlOk kind)) = false → v = (Iv ((ruleP kind).num))),
    Fact.pure [16, 18, 14] (fun v => (!(rlOk kind)) = false → v = (Bo β1)),
    Fact.pure [14, 19] (fun v => v = (Bo ((!(rlOk kind)) || β1))),
    Fact.pure [20] (fun v => v = (Bo ((!(rlOk kind)) || β1))),
    Fact.pure [21] (fun v => ((!(rlOk kind)) || β1) = false → v = (.slice p_nums L_nums.length q_nums)),
    Fact.pure [22, 21] (fun v => ((!(rlOk kind)) || β1) = false → v = (Bo β2)),
    Fact.pure [23, 21] (fun v => ((!(rlOk kind)) || β1) = false → v = (Bo (!β2))),
    Fact.pure [21, 24] (fun v => v = (Bo β3))]) (by simp [Fact.pure, Fact.mem]) ?_
  refine RW_d _ rfl (fun v => by dsimp only [List.set]; try rfl) (fun u hu hF => ?_) (fun v19 => ?_)
  · clear hF
    refine doesG_un rfl ?_
    refine (does_move (u := (Bo (rlOk kind))) (ev rfl)).mono ?_; rintro _ _ ⟨rfl, rfl⟩
    exact ⟨rfl, Ext.refl _⟩
  refine RW_d _ rfl (fun v => by dsimp only [List.set]; try rfl) (fun u hu hF => ?_) (fun v20 => ?_)
  · have h12_ : v19 = (Bo (rlOk kind)) := hF.1
    clear hF
    refine doesG_un rfl ?_
    obtain rfl := h12_
    refine (does_not (ev rfl)).mono ?_; rintro _ _ ⟨rfl, rfl⟩
    exact ⟨rfl, Ext.refl _⟩
  refine RW_d _ rfl (fun v => by dsimp only [List.set]; try rfl) (fun u hu hF => ?_) (fun v21 => ?_)
  · have h13_ : v20 = (Bo (!(rlOk kind))) := hF.1
    clear hF
    refine doesG_un rfl ?_
    obtain rfl := h13_
    refine (does_move (u := (Bo (!(rlOk kind)))) (ev rfl)).mono ?_; rintro _ _ ⟨rfl, rfl⟩
    exact ⟨rfl, Ext.refl _⟩
  refine RW_d _ rfl (fun v => by dsimp only [List.set]; try rfl) (fun u hu hF => ?_) (fun v22 => ?_)
  · have h14_ : v21 = (Bo (!(rlOk kind))) := hF.1
    clear hF
    obtain rfl := h14_
    refine doesG_g (b := (!(rlOk kind))) rfl (yld rfl rfl) (fun hg1 => ?_) (fun hc => ⟨fun hg1 => absurd hg1 hc, Ext.refl _⟩)
    refine (does_move (u := (.slice p_nums L_nums.length q_nums)) (ev rfl)).mono ?_; rintro _ _ ⟨rfl, rfl⟩
    exact ⟨fun _ => rfl, Ext.refl _⟩
  refine RW_d _ rfl (fun v => by dsimp only [List.set]; try rfl) (fun u hu hF => ?_) (fun v23 => ?_)
  · have h15_ : (!(rlOk kind)) = false → v22 = (.slice p_nums L_nums.length q_nums) := hF.1
    have h14_ : v21 = (Bo (!(rlOk kind))) := hF.2.1
    clear hF
    obtain rfl := h14_
    refine doesG_g (b := (!(rlOk kind))) rfl (yld rfl rfl) (fun hg1 => ?_) (fun hc => ⟨fun hg1 => absurd hg1 hc, Ext.refl _⟩)
    obtain rfl := h15_ hg1
    refine (does_len_slice Try.underlying97 (ev rfl)).mono ?_; rintro _ _ ⟨rfl, rfl⟩
    exact ⟨fun _ => rfl, Ext.refl _⟩
  refine RW_d _ rfl (fun v => by dsimp only [List.set]; try rfl) (fun u hu hF => ?_) (fun v24 => ?_)
  · have h14_ : v21 = (Bo (!(rlOk kind))) := hF.1
    clear hF
    obtain rfl := h14_
    refine doesG_g (b := (!(rlOk kind))) rfl (yld rfl rfl) (fun hg1 => ?_) (fun hc => ⟨fun hg1 => absurd hg1 hc, Ext.refl _⟩)
    refine (does_fieldAddr (ev rfl) fa141_0).mono ?_; rintro _ _ ⟨rfl, rfl⟩
    exact ⟨fun _ => rfl, Ext.refl _⟩
  refine RW_d _ rfl (fun v => by dsimp only [List.set]; try rfl) (fun u hu hF => ?_) (fun v25 => ?_)
  · have h17_ : (!(rlOk kind)) = false → v24 = (Pt b6 0) := hF.1
    have h14_ : v21 = (Bo (!(rlOk kind))) := hF.2.1
    clear hF
    obtain rfl := h14_
    refine doesG_g (b := (!(rlOk kind))) rfl (yld rfl rfl) (fun hg1 => ?_) (fun hc => ⟨fun hg1 => absurd hg1 hc, Ext.refl _⟩)
    obtain rfl := h17_ hg1
    refine (does_load (u := (Iv ((ruleP kind).num))) (ev rfl) Try.isAgg3 (Cells.at (Blk.cells (hB14.ext hu)) 0 rfl)).mono ?_; rintro _ _ ⟨rfl, rfl⟩
    exact ⟨fun _ => rfl, Ext.refl _⟩
  refine RW_d _ rfl (fun v => by dsimp only [List.set]; try rfl) (fun u hu hF => ?_) (fun v26 => ?_)
  · have h16_ : (!(rlOk kind)) = false → v23 = (Iv (L_nums.length : Int)) := hF.1
    have h18_ : (!(rlOk kind)) = false → v25 = (Iv ((ruleP kind).num)) := hF.2.1
    have h14_ : v21 = (Bo (!(rlOk kind))) := hF.2.2.1
    clear hF
    obtain rfl := h14_
    refine doesG_g (b := (!(rlOk kind))) rfl (yld rfl rfl) (fun hg1 => ?_) (fun hc => ⟨fun hg1 => absurd hg1 hc, Ext.refl _⟩)
    obtain rfl := h16_ hg1
    obtain rfl := h18_ hg1
    refine (does_icmp (p := (L_nums.length : Int)) (q := (ruleP kind).num) (.inr (.inl rfl)) (ev rfl) (ev rfl)).mono ?_; rintro _ _ ⟨rfl, rfl⟩
    exact ⟨fun _ => (by first | rfl | (show _ = _; simp only [hβ1]; done) | (show _ = _; simp only [hβ1]; rfl)), Ext.refl _⟩
  refine RW_d _ rfl (fun v => by dsimp only [List.set]; try rfl) (fun u hu hF => ?_) (fun v27 => ?_)
  · have h14_ : v21 = (Bo (!(rlOk kind))) := hF.1
    have h19_ : (!(rlOk kind)) = false → v26 = (Bo β1) := hF.2.1
    clear hF
    refine doesG_un rfl ?_
    skip
    obtain rfl := h14_
    refine (does_pick (b := (!(rlOk kind))) (u := (Bo true)) (v := v26) (ev rfl) (ev rfl) (ev rfl)).mono ?_; rintro _ _ ⟨rfl, rfl⟩; refine ⟨?_, Ext.refl _⟩; skip
    cases hbb : (!(rlOk kind))
    all_goals first | (show _ = _; simp only [↓reduceIte, Bool.true_and, Bool.false_and, Bool.true_or, Bool.false_or, Bool.false_eq_true]; done) | (have e_ := h19_ hbb; subst e_; show _ = _; simp only [↓reduceIte, Bool.true_and, Bool.false_and, Bool.true_or, Bool.false_or, Bool.false_eq_true]; done) | rfl | (have e_ := h19_ hbb; subst e_; rfl) | (simp [hbb] at h19_ ⊢; first | done | rfl | (subst h19_; rfl) | simp_all) | (simp [hbb] at h19_ ⊢; done)
  refine RW_d _ rfl (fun v => by dsimp only [List.set]; try rfl) (fun u hu hF => ?_) (fun v28 => ?_)
  · have h20_ : v27 = (Bo ((!(rlOk kind)) || β1)) := hF.1
    clear hF
    refine doesG_un rfl ?_
    obtain rfl := h20_
    refine (does_move (u := (Bo ((!(rlOk kind)) || β1))) (ev rfl)).mono ?_; rintro _ _ ⟨rfl, rfl⟩
    exact ⟨rfl, Ext.refl _⟩
  refine RW_d _ rfl (fun v => by dsimp only [List.set]; try rfl) (fun u hu hF => ?_) (fun v29 => ?_)
  · have h21_ : v28 = (Bo ((!(rlOk kind)) || β1)) := hF.1
    clear hF
    obtain rfl := h21_
    refine doesG_g (b := ((!(rlOk kind)) || β1)) rfl (yld rfl rfl) (fun hg1 => ?_) (fun hc => ⟨fun hg1 => absurd hg1 hc, Ext.refl _⟩)
    refine (does_move (u := (.slice p_nums L_nums.length q_nums)) (ev rfl)).mono ?_; rintro _ _ ⟨rfl, rfl⟩
    exact ⟨fun _ => rfl, Ext.refl _⟩
  refine RW_d _ rfl (fun v => by dsimp only [List.set]; try rfl) (fun u hu hF => ?_) (fun v30 => ?_)
  · have h22_ : ((!(rlOk kind)) || β1) = false → v29 = (.slice p_nums L_nums.length q_nums) := hF.1
    have h21_ : v28 = (Bo ((!(rlOk kind)) || β1)) := hF.2.1
    clear hF
    obtain rfl := h21_
    refine doesG_g (b := ((!(rlOk kind)) || β1)) rfl (yld rfl rfl) (fun hg1 => ?_) (fun hc => ⟨fun hg1 => absurd hg1 hc, Ext.refl _⟩)
    obtain rfl := h22_ hg1
    refine (does_call (args := #[(.slice p_nums L_nums.length q_nums)]) cal79 (evs rfl) (c_impl_finite (.slice p_nums L_nums.length q_nums) L_nums _ (Sl.ext (Sl.ext hv_nums RF.mono X16) RF.mono hu))).mono ?_; rintro v u' ⟨hx, hv⟩
    exact ⟨fun _ => hv.trans (by simp only [hβ2]), hx⟩
  refine RW_d _ rfl (fun v => by dsimp only [List.set]; try rfl) (fun u hu hF => ?_) (fun v31 => ?_)
  · have h23_ : ((!(rlOk kind)) || β1) = false → v30 = (Bo β2) := hF.1
    have h21_ : v28 = (Bo ((!(rlOk kind)) || β1)) := hF.2.1
    clear hF
    obtain rfl := h21_
    refine doesG_g (b := ((!(rlOk kind)) || β1)) rfl (yld rfl rfl) (fun hg1 => ?_) (fun hc => ⟨fun hg1 => absurd hg1 hc, Ext.refl _⟩)
    obtain rfl := h23_ hg1
    refine (does_not (ev rfl)).mono ?_; rintro _ _ ⟨rfl, rfl⟩
    exact ⟨fun _ => rfl, Ext.refl _⟩
  refine RW_d _ rfl (fun v => by dsimp only [List.set]; try rfl) (fun u hu hF => ?_) (fun v32 => ?_)
  · have h21_ : v28 = (Bo ((!(rlOk kind)) || β1)) := hF.1
    have h24_ : ((!(rlOk kind)) || β1) = false → v31 = (Bo (!β2)) := hF.2.1
    clear hF
    refine doesG_un rfl ?_
    skip
    obtain rfl := h21_
    refine (does_pick (b := ((!(rlOk kind)) || β1)) (u := (Bo true)) (v := v31) (ev rfl) (ev rfl) (ev rfl)).mono ?_; rintro _ _ ⟨rfl, rfl⟩; refine ⟨?_, Ext.refl _⟩; rw [hβ3]; skip
    cases hbb : ((!(rlOk kind)) || β1)
    all_goals first | (show _ = _; simp only [↓reduceIte, Bool.true_and, Bool.false_and, Bool.true_or, Bool.false_or, Bool.false_eq_true]; done) | (have e_ := h24_ hbb; subst e_; show _ = _; simp only [↓reduceIte, Bool.true_and, Bool.false_and, Bool.true_or, Bool.false_or, Bool.false_eq_true]; done) | rfl | (have e_ := h24_ hbb; subst e_; rfl) | (simp [hbb] at h24_ ⊢; first | done | rfl | (subst h24_; rfl) | simp_all) | (simp [hbb] at h24_ ⊢; done)
  refine RW_fin ?_; intro w33 E34 hP35
  obtain ⟨⟨⟨⟨⟨⟨⟨⟨⟨⟨⟨⟨⟨⟨-, -⟩, -⟩, -⟩, -⟩, -⟩, -⟩, -⟩, -⟩, -⟩, -⟩, -⟩, -⟩, -⟩, q36⟩ := hP35
  have X37 := Ext.gr X16 E34
  have q36 : v32 = (Bo β3) := q36
  obtain rfl := q36
  show wpList _ _ _ _ (fr [_, _, _, _, _, _, _, _, _, _, _, _, _, _, _, _, _, _, _, _, _, _, _, _, _, _, _, _, _, _]) _
  refine wpList_nil (hK18 _ _ ?_)
  refine wp_cond_split (t := β3) (ev rfl) (fun c38 => ?_) (fun c38 => ?_)
  · have c38' := c38
    (try simp only [hβ1, hβ2, hβ3] at c38')
    (try simp only [icmp, Bool.and_eq_true, Bool.or_eq_true, Bool.and_eq_false_iff, Bool.or_eq_false_iff, Bool.not_eq_true', Bool.not_eq_false', decide_eq_true_eq, decide_eq_false_iff_not, beq_iff_eq, bne_iff_ne, beq_eq_false_iff_ne, bne_eq_false_iff_eq] at c38')
    refine wp_seq_k fun K39 hK39 => ?_
    refine wp_region_lit ?_
    refine q_is rfl rfl (does_assign (u := (Bo false)) (ev rfl)) (by dsimp only [List.set]; try rfl) ?_
    refine wpList_nil (hK39 _ _ ?_)
    refine wp_ret ?_
    dsimp only [Exit.then, Exit.inBlock]
    refine ret_val (v := (Bo false)) (res_T rfl (slot rfl)) X37 ?_
    try simp only [hβ1, hβ2, hβ3] at c38
    have x40 : (rlOk kind && nodeNums kind L_nums) = false := by first | exact numI_f (by assumption) | exact numI_t (by assumption)
    exact (by first | with_reducible rfl | rw [x40] | rfl)
  have c38' := c38
  (try simp only [hβ1, hβ2, hβ3] at c38')
  (try simp only [icmp, Bool.and_eq_true, Bool.or_eq_true, Bool.and_eq_false_iff, Bool.or_eq_false_iff, Bool.not_eq_true', Bool.not_eq_false', decide_eq_true_eq, decide_eq_false_iff_not, beq_iff_eq, bne_iff_ne, beq_eq_false_iff_ne, bne_eq_false_iff_eq] at c38')
  refine wp_skip (hK17 _ _ ?_)
  refine wp_seq_k fun K41 hK41 => ?_
  refine wp_region_lit ?_
  refine q_is rfl rfl (does_move (u := (.slice p_nums L_nums.length q_nums)) (ev rfl)) (by dsimp only [List.set]; try rfl) ?_
  refine q_is rfl rfl (does_makeFunc (u := (.func (.func 87) #[] #[(Pt b6 0)])) (evs rfl) (evs rfl) rfl) (by dsimp only [List.set]; try rfl) ?_
  refine seqd rfl rfl (does_call (args := #[(.slice p_nums L_nums.length q_nums), (.func (.func 87) #[] #[(Pt b6 0)])]) cal86 (evs rfl) (c_slices_ContainsFunc_float32_float32 (.slice p_nums L_nums.length q_nums) L_nums (.func (.func 87) #[] #[(Pt b6 0)]) (fun x => ((ruleP kind).sg == 1 && lssF x) || ((ruleP kind).sg == 2 && leqF x)) _ (Sl.ext hv_nums RF.mono X37) ⟨87, #[], #[(Pt b6 0)], rfl, cal87, fun r u hu' => by simpa using (c_impl_numbersOk_1 r b6 0 [(Iv ((ruleP kind).num)), (Iv ((ruleP kind).ch)), (Bo ((ruleP kind).ax)), (Iv ((ruleP kind).sg))] (ruleP kind) u (Blk.cells ((hB14.ext E34).ext hu')) rfl)⟩)) ?_; rintro _ w43 ⟨E42, rfl⟩
  have X44 := Ext.gr X37 E42
  show wpList _ _ _ _ (fr [_, _, _, _, _, _, _, _, _, _, _, _, _, _, _, _, _, _, _, _, _, _, _, _, _, _, _, _, _, _]) _
  refine q_is rfl rfl (does_not (ev rfl)) (by dsimp only [List.set]; try rfl) ?_
  refine q_is rfl rfl (does_assign (u := (Bo (!(L_nums.any (fun x => ((ruleP kind).sg == 1 && lssF x) || ((ruleP kind).sg == 2 && leqF x)))))) (ev rfl)) (by dsimp only [List.set]; try rfl) ?_
  refine wpList_nil (hK41 _ _ ?_)
  refine wp_ret ?_
  refine ret_val (v := (Bo (!(L_nums.any (fun x => ((ruleP kind).sg == 1 && lssF x) || ((ruleP kind).sg == 2 && leqF x)))))) (res_T rfl (slot rfl)) X44 ?_
  try simp only [hβ1, hβ2, hβ3] at c38
  have x45 : (rlOk kind && nodeNums kind L_nums) = (!(L_nums.any (fun x => ((ruleP kind).sg == 1 && lssF x) || ((ruleP kind).sg == 2 && leqF x)))) := by first | exact numI_f (by assumption) | exact numI_t (by assumption)
  exact (by first | with_reducible rfl | rw [x45] | rfl)

/- impl.axisOk -/
theorem c_impl_axisOk (n__b : Nat) (n__o : Nat) (n_ : List Value) (A_n_ : NodeT) (w : World) (hc_n_ : Cells w n__b n__o n_) (hv_n_ : RNodeT w A_n_ n_) : Gives Try.prog 57 #[(Pt n__b n__o)] w (fun v w' => v = (Bo (axOk A_n_))) := by
  obtain ⟨y1, rfl, h2⟩ := hv_n_
  have hs5 := h2; have hs5l := Sl.len h2; obtain ⟨p3, q4, rfl⟩ := Sl.shape h2
  refine enter [(Pt n__b n__o), Ud, Ud, Ud, Ud, Ud, Ud, Ud, Ud, Ud, Ud, Ud, Ud, Ud, Ud, Ud, Ud, Ud, Ud, Ud, Ud, Ud, Ud, Ud, Ud, Ud, Ud, Ud, Ud, Ud, Ud, Ud, Ud, Ud, Ud, Ud, Ud, Ud, Ud, Ud, Ud, Ud, Ud, Ud, Ud, Ud] Try.func57 rfl Try.ntmps57 rfl ?_
  refine wp_seq_k fun K6 hK6 => ?_
  refine wp_region_lit ?_
  refine q_is rfl rfl (does_assign (u := (Bo false)) (ev rfl)) (by dsimp only [List.set]; try rfl) ?_
  refine wpList_nil (hK6 _ _ ?_)
  refine wp_seq_k fun K7 hK7 => ?_
  refine wp_region_lit ?_
  refine q_is rfl rfl (does_move (u := (Pt n__b n__o)) (ev rfl)) (by dsimp only [List.set]; try rfl) ?_
  refine q_is rfl rfl (does_nilCheck (ev rfl)) (by dsimp only [List.set]; try rfl) ?_
  refine q_is rfl rfl (does_fieldAddr (ev rfl) fa102_0) (by dsimp only [List.set]; try rfl) ?_
  refine q_is rfl rfl (does_load (u := (Iv A_n_.kind)) (ev rfl) Try.isAgg2 (Cells.at hc_n_ 0 rfl)) (by dsimp only [List.set]; try rfl) ?_
  refine seqd rfl rfl (does_call (args := #[(Iv A_n_.kind)]) cal85 (evs rfl) (c_impl_ruleOf A_n_.kind _)) ?_; rintro _ w9 ⟨E8, ⟨_, rfl, rfl⟩⟩
  have X10 := Ext.gr (Ext.refl w) E8
  show wpList _ _ _ _ (fr [_, _, _, _, _, _, _, _, _, _, _, _, _, _, _, _, _, _, _, _, _, _, _, _, _, _, _, _, _, _, _, _, _, _, _, _, _, _, _, _, _, _, _, _, _, _]) _
  refine q_is rfl rfl (does_move (u := (.tuple #[(.agg #[(Iv ((ruleP A_n_.kind).num)), (Iv ((ruleP A_n_.kind).ch)), (Bo ((ruleP A_n_.kind).ax)), (Iv ((ruleP A_n_.kind).sg))]), (Bo (rlOk A_n_.kind))])) (ev rfl)) (by dsimp only [List.set]; try rfl) ?_
  refine q_is rfl rfl (does_extract (vs := #[(.agg #[(Iv ((ruleP A_n_.kind).num)), (Iv ((ruleP A_n_.kind).ch)), (Bo ((ruleP A_n_.kind).ax)), (Iv ((ruleP A_n_.kind).sg))]), (Bo (rlOk A_n_.kind))]) (u := (.agg #[(Iv ((ruleP A_n_.kind).num)), (Iv ((ruleP A_n_.kind).ch)), (Bo ((ruleP A_n_.kind).ax)), (Iv ((ruleP A_n_.kind).sg))])) (ev rfl) rfl) (by dsimp only [List.set]; try rfl) ?_
  refine q_is rfl rfl (does_extract (vs := #[(.agg #[(Iv ((ruleP A_n_.kind).num)), (Iv ((ruleP A_n_.kind).ch)), (Bo ((ruleP A_n_.kind).ax)), (Iv ((ruleP A_n_.kind).sg))]), (Bo (rlOk A_n_.kind))]) (u := (Bo (rlOk A_n_.kind))) (ev rfl) rfl) (by dsimp only [List.set]; try rfl) ?_
  refine seqd rfl rfl (does_alloc z141) ?_; rintro _ w15 ⟨b11, rfl, hb12, hB13, E14⟩
  have n16 : n__b < b11 := Nat.lt_of_lt_of_le (cell_lt (Cells.at (hc_n_.ext X10) 0 rfl)) hb12
  have g17 : w.heap.size ≤ b11 := Nat.le_trans (Below.size X10) hb12
  change Blk _ _ [(Iv 0), (Iv 0), (Bo false), (Iv 0)] at hB13
  have X18 := Ext.gr X10 E14
  show wpList _ _ _ _ (fr [_, _, _, _, _, _, _, _, _, _, _, _, _, _, _, _, _, _, _, _, _, _, _, _, _, _, _, _, _, _, _, _, _, _, _, _, _, _, _, _, _, _, _, _, _, _]) _
  refine seqn rfl rfl (does_store (n := 4) (cs := [(Iv 0), (Iv 0), (Bo false), (Iv 0)]) (u := (.agg #[(Iv ((ruleP A_n_.kind).num)), (Iv ((ruleP A_n_.kind).ch)), (Bo ((ruleP A_n_.kind).ax)), (Iv ((ruleP A_n_.kind).sg))])) (ev rfl) (ev rfl) Try.sizeOf141 rfl hB13 (Nat.le_of_ble_eq_true rfl) rfl) ?_; rintro _ w21 ⟨rfl, W19, hB20⟩
  change Blk _ _ [(Iv ((ruleP A_n_.kind).num)), (Iv ((ruleP A_n_.kind).ch)), (Bo ((ruleP A_n_.kind).ax)), (Iv ((ruleP A_n_.kind).sg))] at hB20
  have X22 := Below.wr X18 W19 g17
  refine q_is rfl rfl (does_assign (u := (Bo (rlOk A_n_.kind))) (ev rfl)) (by dsimp only [List.set]; try rfl) ?_
  refine wpList_nil (hK7 _ _ ?_)
  refine wp_seq_k fun K23 hK23 => ?_
  obtain ⟨β1, hβ1⟩ : ∃ b : Bool, b = (icmp .gtr ((ruleP A_n_.kind).ch) 0) := ⟨_, rfl⟩
  obtain ⟨β2, hβ2⟩ : ∃ b : Bool, b = (β1 || (icmp .eql A_n_.a 0)) := ⟨_, rfl⟩
  obtain ⟨β3, hβ3⟩ : ∃ b : Bool, b = (icmp .eql ((ruleP A_n_.kind).ch) 2) := ⟨_, rfl⟩
  obtain ⟨β4, hβ4⟩ : ∃ b : Bool, b = (β3 || (icmp .eql A_n_.b 0)) := ⟨_, rfl⟩
  obtain ⟨β5, hβ5⟩ : ∃ b : Bool, b = (((ruleP A_n_.kind).ax) && (inI A_n_.b 0 2)) := ⟨_, rfl⟩
  refine region_text (
    [Fact.pure [] (fun v => v = (Pt b11 1)),
    Fact.pure [13] (fun v => v = (Iv ((ruleP A_n_.kind).ch))),
    Fact.pure [14] (fun v => v = (Bo β1)),
    Fact.pure [15] (fun v => v = (Bo β1)),
    Fact.pure [16] (fun v => β1 = false → v = (Pt n__b n__o)),
    Fact.pure [17, 16] (fun v => β1 = false → v = (Pt n__b n__o)),
    Fact.pure [18, 16] (fun v => β1 = false → v = (Pt n__b (n__o + 1))),
    Fact.pure [19, 16] (fun v => β1 = false → v = (Iv A_n_.a)),
    Fact.pure [20, 16] (fun v => β1 = false → v = (Bo (icmp .eql A_n_.a 0))),
    Fact.pure [16, 21] (fun v => v = (Bo β2)),
    Fact.pure [22] (fun v => v = (Bo β2)),
    Fact.pure [23] (fun v => β2 = true → v = (Pt b11 1)),
    Fact.pure [24, 23] (fun v => β2 = true → v = (Iv ((ruleP A_n_.kind).ch))),
    Fact.pure [25, 23] (fun v => β2 = true → v = (Bo β3)),
    Fact.pure [26, 23] (fun v => (β2 = true → v = (Bo β3)) ∧ (¬ (β2 = true) → v = undef)),
    Fact.pure [27] (fun v => β2 = true → β3 = false → v = (Pt n__b n__o)),
    Fact.pure [28, 27] (fun v => β2 = true → β3 = false → v = (Pt n__b n__o)),
    Fact.pure [29, 27] (fun v => β2 = true → β3 = false → v = (Pt n__b (n__o + 2))),
    Fact.pure [30, 27] (fun v => β2 = true → β3 = false → v = (Iv A_n_.b)),
    Fact.pure [31, 27] (fun v => β2 = true → β3 = false → v = (Bo (icmp .eql A_n_.b 0))),
    Fact.pure [27, 32, 23] (fun v => β2 = true → v = (Bo β4)),
    Fact.pure [33, 23] (fun v => (β2 = true → v = (Bo β4)) ∧ (¬ (β2 = true) → v = undef)),
    Fact.pure [34] (fun v => β2 = true → β4 = false → v = (Pt b11 2)),
    Fact.pure [35, 34] (fun v => β2 = true → β4 = false → v = (Bo ((ruleP A_n_.kind).ax))),
    Fact.pure [36, 34] (fun v => (β2 = true → β4 = false → v = (Bo ((ruleP A_n_.kind).ax))) ∧ (¬ (β2 = true ∧ β4 = false) → v = undef)),
    Fact.pure [37] (fun v => β2 = true → β4 = false → ((ruleP A_n_.kind).ax) = true → v = (Pt n__b n__o)),
    Fact.pure [38, 37] (fun v => β2 = true → β4 = false → ((ruleP A_n_.kind).ax) = true → v = (Pt n__b n__o)),
    Fact.pure [39, 37] (fun v => β2 = true → β4 = false → ((ruleP A_n_.kind).ax) = true → v = (Pt n__b (n__o + 2))),
    Fact.pure [40, 37] (fun v => β2 = true → β4 = false → ((ruleP A_n_.kind).ax) = true → v = (Iv A_n_.b)),
    Fact.pure [41, 37] (fun v => β2 = true → β4 = false → ((ruleP A_n_.kind).ax) = true → v = (Bo (inI A_n_.b 0 2))),
    Fact.pure [37, 42, 34] (fun v => β2 = true → β4 = false → v = (Bo β5)),
    Fact.pure [34, 43, 23] (fun v => β2 = true → v = (Bo (β4 || β5))),
    Fact.pure [23, 44] (fun v => v = (Bo (β2 && (β4 || β5))))]) (by simp [Fact.pure, Fact.mem]) ?_
  refine RW_d _ rfl (fun v => by dsimp only [List.set]; try rfl) (fun u hu hF => ?_) (fun v24 => ?_)
  · clear hF
    refine doesG_un rfl ?_
    refine (does_fieldAddr (ev rfl) fa141_1).mono ?_; rintro _ _ ⟨rfl, rfl⟩
    exact ⟨rfl, Ext.refl _⟩
  refine RW_d _ rfl (fun v => by dsimp only [List.set]; try rfl) (fun u hu hF => ?_) (fun v25 => ?_)
  · have h13_ : v24 = (Pt b11 1) := hF.1
    clear hF
    refine doesG_un rfl ?_
    obtain rfl := h13_
    refine (does_load (u := (Iv ((ruleP A_n_.kind).ch))) (ev rfl) Try.isAgg3 (Cells.at (Blk.cells (hB20.ext hu)) 1 rfl)).mono ?_; rintro _ _ ⟨rfl, rfl⟩
    exact ⟨rfl, Ext.refl _⟩
  refine RW_d _ rfl (fun v => by dsimp only [List.set]; try rfl) (fun u hu hF => ?_) (fun v26 => ?_)
  · have h14_ : v25 = (Iv ((ruleP A_n_.kind).ch)) := hF.1
    clear hF
    refine doesG_un rfl ?_
    obtain rfl := h14_
    refine (does_icmp (p := (ruleP A_n_.kind).ch) (q := 0) (.inr (.inr (.inr (.inr (.inl rfl))))) (ev rfl) (ev rfl)).mono ?_; rintro _ _ ⟨rfl, rfl⟩
    exact ⟨(by first | rfl | (show _ = _; simp only [hβ1]; done) | (show _ = _; simp only [hβ1]; rfl)), Ext.refl _⟩
  refine RW_d _ rfl (fun v => by dsimp only [List.set]; try rfl) (fun u hu hF => ?_) (fun v27 => ?_)
  · have h15_ : v26 = (Bo β1) := hF.1
    clear hF
    refine doesG_un rfl ?_
    obtain rfl := h15_
    refine (does_move (u := (Bo β1)) (ev rfl)).mono ?_; rintro _ _ ⟨rfl, rfl⟩
    exact ⟨rfl, Ext.refl _⟩
  refine RW_d _ rfl (fun v => by dsimp only [List.set]; try rfl) (fun u hu hF => ?_) (fun v28 => ?_)
  · have h16_ : v27 = (Bo β1) := hF.1
    clear hF
    obtain rfl := h16_
    refine doesG_g (b := β1) rfl (yld rfl rfl) (fun hg1 => ?_) (fun hc => ⟨fun hg1 => absurd hg1 hc, Ext.refl _⟩)
    refine (does_move (u := (Pt n__b n__o)) (ev rfl)).mono ?_; rintro _ _ ⟨rfl, rfl⟩
    exact ⟨fun _ => rfl, Ext.refl _⟩
  refine RW_d _ rfl (fun v => by dsimp only [List.set]; try rfl) (fun u hu hF => ?_) (fun v29 => ?_)
  · have h17_ : β1 = false → v28 = (Pt n__b n__o) := hF.1
    have h16_ : v27 = (Bo β1) := hF.2.1
    clear hF
    obtain rfl := h16_
    refine doesG_g (b := β1) rfl (yld rfl rfl) (fun hg1 => ?_) (fun hc => ⟨fun hg1 => absurd hg1 hc, Ext.refl _⟩)
    obtain rfl := h17_ hg1
    refine (does_nilCheck (ev rfl)).mono ?_; rintro _ _ ⟨rfl, rfl⟩
    exact ⟨fun _ => rfl, Ext.refl _⟩
  refine RW_d _ rfl (fun v => by dsimp only [List.set]; try rfl) (fun u hu hF => ?_) (fun v30 => ?_)
  · have h18_ : β1 = false → v29 = (Pt n__b n__o) := hF.1
    have h16_ : v27 = (Bo β1) := hF.2.1
    clear hF
    obtain rfl := h16_
    refine doesG_g (b := β1) rfl (yld rfl rfl) (fun hg1 => ?_) (fun hc => ⟨fun hg1 => absurd hg1 hc, Ext.refl _⟩)
    obtain rfl := h18_ hg1
    refine (does_fieldAddr (ev rfl) fa102_1).mono ?_; rintro _ _ ⟨rfl, rfl⟩
    exact ⟨fun _ => rfl, Ext.refl _⟩
  refine RW_d _ rfl (fun v => by dsimp only [List.set]; try rfl) (fun u hu hF => ?_) (fun v31 => ?_)
  · have h19_ : β1 = false → v30 = (Pt n__b (n__o + 1)) := hF.1
    have h16_ : v27 = (Bo β1) := hF.2.1
    clear hF
    obtain rfl := h16_
    refine doesG_g (b := β1) rfl (yld rfl rfl) (fun hg1 => ?_) (fun hc => ⟨fun hg1 => absurd hg1 hc, Ext.refl _⟩)
    obtain rfl := h19_ hg1
    refine (does_load (u := (Iv A_n_.a)) (ev rfl) Try.isAgg2 (Cells.at ((hc_n_.ext X22).ext hu) 1 rfl)).mono ?_; rintro _ _ ⟨rfl, rfl⟩
    exact ⟨fun _ => rfl, Ext.refl _⟩
  refine RW_d _ rfl (fun v => by dsimp only [List.set]; try rfl) (fun u hu hF => ?_) (fun v32 => ?_)
  · have h20_ : β1 = false → v31 = (Iv A_n_.a) := hF.1
    have h16_ : v27 = (Bo β1) := hF.2.1
    clear hF
    obtain rfl := h16_
    refine doesG_g (b := β1) rfl (yld rfl rfl) (fun hg1 => ?_) (fun hc => ⟨fun hg1 => absurd hg1 hc, Ext.refl _⟩)
    obtain rfl := h20_ hg1
    refine (does_icmp (p := A_n_.a) (q := 0) (.inl rfl) (ev rfl) (ev rfl)).mono ?_; rintro _ _ ⟨rfl, rfl⟩
    exact ⟨fun _ => rfl, Ext.refl _⟩
  refine RW_d _ rfl (fun v => by dsimp only [List.set]; try rfl) (fun u hu hF => ?_) (fun v33 => ?_)
  · have h16_ : v27 = (Bo β1) := hF.1
    have h21_ : β1 = false → v32 = (Bo (icmp .eql A_n_.a 0)) := hF.2.1
    clear hF
    refine doesG_un rfl ?_
    skip
    obtain rfl := h16_
    refine (does_pick (b := β1) (u := (Bo true)) (v := v32) (ev rfl) (ev rfl) (ev rfl)).mono ?_; rintro _ _ ⟨rfl, rfl⟩; refine ⟨?_, Ext.refl _⟩; rw [hβ2]; skip
    cases hbb : β1
    all_goals first | (show _ = _; simp only [↓reduceIte, Bool.true_and, Bool.false_and, Bool.true_or, Bool.false_or, Bool.false_eq_true]; done) | (have e_ := h21_ hbb; subst e_; show _ = _; simp only [↓reduceIte, Bool.true_and, Bool.false_and, Bool.true_or, Bool.false_or, Bool.false_eq_true]; done) | rfl | (have e_ := h21_ hbb; subst e_; rfl) | (simp [hbb] at h21_ ⊢; first | done | rfl | (subst h21_; rfl) | simp_all) | (simp [hbb] at h21_ ⊢; done)
  refine RW_d _ rfl (fun v => by dsimp only [List.set]; try rfl) (fun u hu hF => ?_) (fun v34 => ?_)
  · have h22_ : v33 = (Bo β2) := hF.1
    clear hF
    refine doesG_un rfl ?_
    obtain rfl := h22_
    refine (does_move (u := (Bo β2)) (ev rfl)).mono ?_; rintro _ _ ⟨rfl, rfl⟩
    exact ⟨rfl, Ext.refl _⟩
  refine RW_d _ rfl (fun v => by dsimp only [List.set]; try rfl) (fun u hu hF => ?_) (fun v35 => ?_)
  · have h23_ : v34 = (Bo β2) := hF.1
    clear hF
    obtain rfl := h23_
    refine doesG_g (b := β2) rfl (yld rfl rfl) (fun hg1 => ?_) (fun hc => ⟨fun hg1 => absurd hg1 hc, Ext.refl _⟩)
    refine (does_fieldAddr (ev rfl) fa141_1).mono ?_; rintro _ _ ⟨rfl, rfl⟩
    exact ⟨fun _ => rfl, Ext.refl _⟩
  refine RW_d _ rfl (fun v => by dsimp only [List.set]; try rfl) (fun u hu hF => ?_) (fun v36 => ?_)
  · have h24_ : β2 = true → v35 = (Pt b11 1) := hF.1
    have h23_ : v34 = (Bo β2) := hF.2.1
    clear hF
    obtain rfl := h23_
    refine doesG_g (b := β2) rfl (yld rfl rfl) (fun hg1 => ?_) (fun hc => ⟨fun hg1 => absurd hg1 hc, Ext.refl _⟩)
    obtain rfl := h24_ hg1
    refine (does_load (u := (Iv ((ruleP A_n_.kind).ch))) (ev rfl) Try.isAgg3 (Cells.at (Blk.cells (hB20.ext hu)) 1 rfl)).mono ?_; rintro _ _ ⟨rfl, rfl⟩
    exact ⟨fun _ => rfl, Ext.refl _⟩
  refine RW_d _ rfl (fun v => by dsimp only [List.set]; try rfl) (fun u hu hF => ?_) (fun v37 => ?_)
  · have h25_ : β2 = true → v36 = (Iv ((ruleP A_n_.kind).ch)) := hF.1
    have h23_ : v34 = (Bo β2) := hF.2.1
    clear hF
    obtain rfl := h23_
    refine doesG_g (b := β2) rfl (yld rfl rfl) (fun hg1 => ?_) (fun hc => ⟨fun hg1 => absurd hg1 hc, Ext.refl _⟩)
    obtain rfl := h25_ hg1
    refine (does_icmp (p := (ruleP A_n_.kind).ch) (q := 2) (.inl rfl) (ev rfl) (ev rfl)).mono ?_; rintro _ _ ⟨rfl, rfl⟩
    exact ⟨fun _ => (by first | rfl | (show _ = _; simp only [hβ3]; done) | (show _ = _; simp only [hβ3]; rfl)), Ext.refl _⟩
  refine RW_d _ rfl (fun v => by dsimp only [List.set]; try rfl) (fun u hu hF => ?_) (fun v38 => ?_)
  · have h26_ : β2 = true → v37 = (Bo β3) := hF.1
    have h23_ : v34 = (Bo β2) := hF.2.1
    clear hF
    obtain rfl := h23_
    refine doesG_g (b := β2) rfl (yld rfl rfl) (fun hg1 => ?_) (fun hc => ⟨⟨fun hg1 => absurd hg1 hc, fun _ => rfl⟩, Ext.refl _⟩)
    obtain rfl := h26_ hg1
    refine (does_move (u := (Bo β3)) (ev rfl)).mono ?_; rintro _ _ ⟨rfl, rfl⟩
    exact ⟨⟨fun _ => rfl, fun hn => absurd hg1 hn⟩, Ext.refl _⟩
  refine RW_d _ rfl (fun v => by dsimp only [List.set]; try rfl) (fun u hu hF => ?_) (fun v39 => ?_)
  · have h27_ : (β2 = true → v38 = (Bo β3)) ∧ (¬ (β2 = true) → v38 = undef) := hF.1; have h27u := h27_.2; replace h27_ := h27_.1
    clear hF
    refine doesG_gg (b := β3) (c := β2 = true) rfl (fun hc => ?_) (fun hc => ?_) (fun hc hg2 => ?_) (fun hc => ⟨fun hg1 hg2 => absurd ⟨hg1, hg2⟩ hc, Ext.refl _⟩)
    · have hg1 := hc; obtain rfl := h27_ hg1; exact yld rfl rfl
    · obtain rfl := h27u hc; exact yldn rfl rfl
    have hg1 := hc
    obtain rfl := h27_ hg1
    refine (does_move (u := (Pt n__b n__o)) (ev rfl)).mono ?_; rintro _ _ ⟨rfl, rfl⟩
    exact ⟨fun _ _ => rfl, Ext.refl _⟩
  refine RW_d _ rfl (fun v => by dsimp only [List.set]; try rfl) (fun u hu hF => ?_) (fun v40 => ?_)
  · have h28_ : β2 = true → β3 = false → v39 = (Pt n__b n__o) := hF.1
    have h27_ : (β2 = true → v38 = (Bo β3)) ∧ (¬ (β2 = true) → v38 = undef) := hF.2.1; have h27u := h27_.2; replace h27_ := h27_.1
    clear hF
    refine doesG_gg (b := β3) (c := β2 = true) rfl (fun hc => ?_) (fun hc => ?_) (fun hc hg2 => ?_) (fun hc => ⟨fun hg1 hg2 => absurd ⟨hg1, hg2⟩ hc, Ext.refl _⟩)
    · have hg1 := hc; obtain rfl := h27_ hg1; exact yld rfl rfl
    · obtain rfl := h27u hc; exact yldn rfl rfl
    have hg1 := hc
    obtain rfl := h27_ hg1
    obtain rfl := h28_ hg1 hg2
    refine (does_nilCheck (ev rfl)).mono ?_; rintro _ _ ⟨rfl, rfl⟩
    exact ⟨fun _ _ => rfl, Ext.refl _⟩
  refine RW_d _ rfl (fun v => by dsimp only [List.set]; try rfl) (fun u hu hF => ?_) (fun v41 => ?_)
  · have h29_ : β2 = true → β3 = false → v40 = (Pt n__b n__o) := hF.1
    have h27_ : (β2 = true → v38 = (Bo β3)) ∧ (¬ (β2 = true) → v38 = undef) := hF.2.1; have h27u := h27_.2; replace h27_ := h27_.1
    clear hF
    refine doesG_gg (b := β3) (c := β2 = true) rfl (fun hc => ?_) (fun hc => ?_) (fun hc hg2 => ?_) (fun hc => ⟨fun hg1 hg2 => absurd ⟨hg1, hg2⟩ hc, Ext.refl _⟩)
    · have hg1 := hc; obtain rfl := h27_ hg1; exact yld rfl rfl
    · obtain rfl := h27u hc; exact yldn rfl rfl
    have hg1 := hc
    obtain rfl := h27_ hg1
    obtain rfl := h29_ hg1 hg2
    refine (does_fieldAddr (ev rfl) fa102_2).mono ?_; rintro _ _ ⟨rfl, rfl⟩
    exact ⟨fun _ _ => rfl, Ext.refl _⟩
  refine RW_d _ rfl (fun v => by dsimp only [List.set]; try rfl) (fun u hu hF => ?_) (fun v42 => ?_)
  · have h30_ : β2 = true → β3 = false → v41 = (Pt n__b (n__o + 2)) := hF.1
    have h27_ : (β2 = true → v38 = (Bo β3)) ∧ (¬ (β2 = true) → v38 = undef) := hF.2.1; have h27u := h27_.2; replace h27_ := h27_.1
    clear hF
    refine doesG_gg (b := β3) (c := β2 = true) rfl (fun hc => ?_) (fun hc => ?_) (fun hc hg2 => ?_) (fun hc => ⟨fun hg1 hg2 => absurd ⟨hg1, hg2⟩ hc, Ext.refl _⟩)
    · have hg1 := hc; obtain rfl := h27_ hg1; exact yld rfl rfl
    · obtain rfl := h27u hc; exact yldn rfl rfl
    have hg1 := hc
    obtain rfl := h27_ hg1
    obtain rfl := h30_ hg1 hg2
    refine (does_load (u := (Iv A_n_.b)) (ev rfl) Try.isAgg2 (Cells.at ((hc_n_.ext X22).ext hu) 2 rfl)).mono ?_; rintro _ _ ⟨rfl, rfl⟩
    exact ⟨fun _ _ => rfl, Ext.refl _⟩
  refine RW_d _ rfl (fun v => by dsimp only [List.set]; try rfl) (fun u hu hF => ?_) (fun v43 => ?_)
  · have h31_ : β2 = true → β3 = false → v42 = (Iv A_n_.b) := hF.1
    have h27_ : (β2 = true → v38 = (Bo β3)) ∧ (¬ (β2 = true) → v38 = undef) := hF.2.1; have h27u := h27_.2; replace h27_ := h27_.1
    clear hF
    refine doesG_gg (b := β3) (c := β2 = true) rfl (fun hc => ?_) (fun hc => ?_) (fun hc hg2 => ?_) (fun hc => ⟨fun hg1 hg2 => absurd ⟨hg1, hg2⟩ hc, Ext.refl _⟩)
    · have hg1 := hc; obtain rfl := h27_ hg1; exact yld rfl rfl
    · obtain rfl := h27u hc; exact yldn rfl rfl
    have hg1 := hc
    obtain rfl := h27_ hg1
    obtain rfl := h31_ hg1 hg2
    refine (does_icmp (p := A_n_.b) (q := 0) (.inl rfl) (ev rfl) (ev rfl)).mono ?_; rintro _ _ ⟨rfl, rfl⟩
    exact ⟨fun _ _ => rfl, Ext.refl _⟩
  refine RW_d _ rfl (fun v => by dsimp only [List.set]; try rfl) (fun u hu hF => ?_) (fun v44 => ?_)
  · have h27_ : (β2 = true → v38 = (Bo β3)) ∧ (¬ (β2 = true) → v38 = undef) := hF.1; have h27u := h27_.2; replace h27_ := h27_.1
    have h32_ : β2 = true → β3 = false → v43 = (Bo (icmp .eql A_n_.b 0)) := hF.2.1
    have h23_ : v34 = (Bo β2) := hF.2.2.1
    clear hF
    obtain rfl := h23_
    refine doesG_g (b := β2) rfl (yld rfl rfl) (fun hg1 => ?_) (fun hc => ⟨fun hg1 => absurd hg1 hc, Ext.refl _⟩)
    skip
    obtain rfl := h27_ hg1
    replace h32_ := h32_ hg1
    refine (does_pick (b := β3) (u := (Bo true)) (v := v43) (ev rfl) (ev rfl) (ev rfl)).mono ?_; rintro _ _ ⟨rfl, rfl⟩; refine ⟨fun _ => ?_, Ext.refl _⟩; rw [hβ4]; skip
    cases hbb : β3
    all_goals first | (show _ = _; simp only [↓reduceIte, Bool.true_and, Bool.false_and, Bool.true_or, Bool.false_or, Bool.false_eq_true]; done) | (have e_ := h32_ hbb; subst e_; show _ = _; simp only [↓reduceIte, Bool.true_and, Bool.false_and, Bool.true_or, Bool.false_or, Bool.false_eq_true]; done) | rfl | (have e_ := h32_ hbb; subst e_; rfl) | (simp [hbb] at h32_ ⊢; first | done | rfl | (subst h32_; rfl) | simp_all) | (simp [hbb] at h32_ ⊢; done)
  refine RW_d _ rfl (fun v => by dsimp only [List.set]; try rfl) (fun u hu hF => ?_) (fun v45 => ?_)
  · have h33_ : β2 = true → v44 = (Bo β4) := hF.1
    have h23_ : v34 = (Bo β2) := hF.2.1
    clear hF
    obtain rfl := h23_
    refine doesG_g (b := β2) rfl (yld rfl rfl) (fun hg1 => ?_) (fun hc => ⟨⟨fun hg1 => absurd hg1 hc, fun _ => rfl⟩, Ext.refl _⟩)
    obtain rfl := h33_ hg1
    refine (does_move (u := (Bo β4)) (ev rfl)).mono ?_; rintro _ _ ⟨rfl, rfl⟩
    exact ⟨⟨fun _ => rfl, fun hn => absurd hg1 hn⟩, Ext.refl _⟩
  refine RW_d _ rfl (fun v => by dsimp only [List.set]; try rfl) (fun u hu hF => ?_) (fun v46 => ?_)
  · have h34_ : (β2 = true → v45 = (Bo β4)) ∧ (¬ (β2 = true) → v45 = undef) := hF.1; have h34u := h34_.2; replace h34_ := h34_.1
    clear hF
    refine doesG_gg (b := β4) (c := β2 = true) rfl (fun hc => ?_) (fun hc => ?_) (fun hc hg2 => ?_) (fun hc => ⟨fun hg1 hg2 => absurd ⟨hg1, hg2⟩ hc, Ext.refl _⟩)
    · have hg1 := hc; obtain rfl := h34_ hg1; exact yld rfl rfl
    · obtain rfl := h34u hc; exact yldn rfl rfl
    have hg1 := hc
    obtain rfl := h34_ hg1
    refine (does_fieldAddr (ev rfl) fa141_2).mono ?_; rintro _ _ ⟨rfl, rfl⟩
    exact ⟨fun _ _ => rfl, Ext.refl _⟩
  refine RW_d _ rfl (fun v => by dsimp only [List.set]; try rfl) (fun u hu hF => ?_) (fun v47 => ?_)
  · have h35_ : β2 = true → β4 = false → v46 = (Pt b11 2) := hF.1
    have h34_ : (β2 = true → v45 = (Bo β4)) ∧ (¬ (β2 = true) → v45 = undef) := hF.2.1; have h34u := h34_.2; replace h34_ := h34_.1
    clear hF
    refine doesG_gg (b := β4) (c := β2 = true) rfl (fun hc => ?_) (fun hc => ?_) (fun hc hg2 => ?_) (fun hc => ⟨fun hg1 hg2 => absurd ⟨hg1, hg2⟩ hc, Ext.refl _⟩)
    · have hg1 := hc; obtain rfl := h34_ hg1; exact yld rfl rfl
    · obtain rfl := h34u hc; exact yldn rfl rfl
    have hg1 := hc
    obtain rfl := h34_ hg1
    obtain rfl := h35_ hg1 hg2
    refine (does_load (u := (Bo ((ruleP A_n_.kind).ax))) (ev rfl) Try.isAgg4 (Cells.at (Blk.cells (hB20.ext hu)) 2 rfl)).mono ?_; rintro _ _ ⟨rfl, rfl⟩
    exact ⟨fun _ _ => rfl, Ext.refl _⟩
  refine RW_d _ rfl (fun v => by dsimp only [List.set]; try rfl) (fun u hu hF => ?_) (fun v48 => ?_)
  · have h36_ : β2 = true → β4 = false → v47 = (Bo ((ruleP A_n_.kind).ax)) := hF.1
    have h34_ : (β2 = true → v45 = (Bo β4)) ∧ (¬ (β2 = true) → v45 = undef) := hF.2.1; have h34u := h34_.2; replace h34_ := h34_.1
    clear hF
    refine doesG_gg (b := β4) (c := β2 = true) rfl (fun hc => ?_) (fun hc => ?_) (fun hc hg2 => ?_) (fun hc => ⟨⟨fun hg1 hg2 => absurd ⟨hg1, hg2⟩ hc, fun _ => rfl⟩, Ext.refl _⟩)
    · have hg1 := hc; obtain rfl := h34_ hg1; exact yld rfl rfl
    · obtain rfl := h34u hc; exact yldn rfl rfl
    have hg1 := hc
    obtain rfl := h34_ hg1
    obtain rfl := h36_ hg1 hg2
    refine (does_move (u := (Bo ((ruleP A_n_.kind).ax))) (ev rfl)).mono ?_; rintro _ _ ⟨rfl, rfl⟩
    exact ⟨⟨fun _ _ => rfl, fun hn => absurd ⟨hg1, hg2⟩ hn⟩, Ext.refl _⟩
  refine RW_d _ rfl (fun v => by dsimp only [List.set]; try rfl) (fun u hu hF => ?_) (fun v49 => ?_)
  · have h37_ : (β2 = true → β4 = false → v48 = (Bo ((ruleP A_n_.kind).ax))) ∧ (¬ (β2 = true ∧ β4 = false) → v48 = undef) := hF.1; have h37u := h37_.2; replace h37_ := h37_.1
    clear hF
    refine doesG_gg (b := ((ruleP A_n_.kind).ax)) (c := β2 = true ∧ β4 = false) rfl (fun hc => ?_) (fun hc => ?_) (fun hc hg3 => ?_) (fun hc => ⟨fun hg1 hg2 hg3 => absurd ⟨⟨hg1, hg2⟩, hg3⟩ hc, Ext.refl _⟩)
    · obtain ⟨hg1, hg2⟩ := hc; obtain rfl := h37_ hg1 hg2; exact yld rfl rfl
    · obtain rfl := h37u hc; exact yldn rfl rfl
    obtain ⟨hg1, hg2⟩ := hc
    obtain rfl := h37_ hg1 hg2
    refine (does_move (u := (Pt n__b n__o)) (ev rfl)).mono ?_; rintro _ _ ⟨rfl, rfl⟩
    exact ⟨fun _ _ _ => rfl, Ext.refl _⟩
  refine RW_d _ rfl (fun v => by dsimp only [List.set]; try rfl) (fun u hu hF => ?_) (fun v50 => ?_)
  · have h38_ : β2 = true → β4 = false → ((ruleP A_n_.kind).ax) = true → v49 = (Pt n__b n__o) := hF.1
    have h37_ : (β2 = true → β4 = false → v48 = (Bo ((ruleP A_n_.kind).ax))) ∧ (¬ (β2 = true ∧ β4 = false) → v48 = undef) := hF.2.1; have h37u := h37_.2; replace h37_ := h37_.1
    clear hF
    refine doesG_gg (b := ((ruleP A_n_.kind).ax)) (c := β2 = true ∧ β4 = false) rfl (fun hc => ?_) (fun hc => ?_) (fun hc hg3 => ?_) (fun hc => ⟨fun hg1 hg2 hg3 => absurd ⟨⟨hg1, hg2⟩, hg3⟩ hc, Ext.refl _⟩)
    · obtain ⟨hg1, hg2⟩ := hc; obtain rfl := h37_ hg1 hg2; exact yld rfl rfl
    · obtain rfl := h37u hc; exact yldn rfl rfl
    obtain ⟨hg1, hg2⟩ := hc
    obtain rfl := h37_ hg1 hg2
    obtain rfl := h38_ hg1 hg2 hg3
    refine (does_nilCheck (ev rfl)).mono ?_; rintro _ _ ⟨rfl, rfl⟩
    exact ⟨fun _ _ _ => rfl, Ext.refl _⟩
  refine RW_d _ rfl (fun v => by dsimp only [List.set]; try rfl) (fun u hu hF => ?_) (fun v51 => ?_)
  · have h39_ : β2 = true → β4 = false → ((ruleP A_n_.kind).ax) = true → v50 = (Pt n__b n__o) := hF.1
    have h37_ : (β2 = true → β4 = false → v48 = (Bo ((ruleP A_n_.kind).ax))) ∧ (¬ (β2 = true ∧ β4 = false) → v48 = undef) := hF.2.1; have h37u := h37_.2; replace h37_ := h37_.1
    clear hF
    refine doesG_gg (b := ((ruleP A_n_.kind).ax)) (c := β2 = true ∧ β4 = false) rfl (fun hc => ?_) (fun hc => ?_) (fun hc hg3 => ?_) (fun hc => ⟨fun hg1 hg2 hg3 => absurd ⟨⟨hg1, hg2⟩, hg3⟩ hc, Ext.refl _⟩)
    · obtain ⟨hg1, hg2⟩ := hc; obtain rfl := h37_ hg1 hg2; exact yld rfl rfl
    · obtain rfl := h37u hc; exact yldn rfl rfl
    obtain ⟨hg1, hg2⟩ := hc
    obtain rfl := h37_ hg1 hg2
    obtain rfl := h39_ hg1 hg2 hg3
    refine (does_fieldAddr (ev rfl) fa102_2).mono ?_; rintro _ _ ⟨rfl, rfl⟩
    exact ⟨fun _ _ _ => rfl, Ext.refl _⟩
  refine RW_d _ rfl (fun v => by dsimp only [List.set]; try rfl) (fun u hu hF => ?_) (fun v52 => ?_)
  · have h40_ : β2 = true → β4 = false → ((ruleP A_n_.kind).ax) = true → v51 = (Pt n__b (n__o + 2)) := hF.1
    have h37_ : (β2 = true → β4 = false → v48 = (Bo ((ruleP A_n_.kind).ax))) ∧ (¬ (β2 = true ∧ β4 = false) → v48 = undef) := hF.2.1; have h37u := h37_.2; replace h37_ := h37_.1
    clear hF
    refine doesG_gg (b := ((ruleP A_n_.kind).ax)) (c := β2 = true ∧ β4 = false) rfl (fun hc => ?_) (fun hc => ?_) (fun hc hg3 => ?_) (fun hc => ⟨fun hg1 hg2 hg3 => absurd ⟨⟨hg1, hg2⟩, hg3⟩ hc, Ext.refl _⟩)
    · obtain ⟨hg1, hg2⟩ := hc; obtain rfl := h37_ hg1 hg2; exact yld rfl rfl
    · obtain rfl := h37u hc; exact yldn rfl rfl
    obtain ⟨hg1, hg2⟩ := hc
    obtain rfl := h37_ hg1 hg2
    obtain rfl := h40_ hg1 hg2 hg3
    refine (does_load (u := (Iv A_n_.b)) (ev rfl) Try.isAgg2 (Cells.at ((hc_n_.ext X22).ext hu) 2 rfl)).mono ?_; rintro _ _ ⟨rfl, rfl⟩
    exact ⟨fun _ _ _ => rfl, Ext.refl _⟩
  refine RW_d _ rfl (fun v => by dsimp only [List.set]; try rfl) (fun u hu hF => ?_) (fun v53 => ?_)
  · have h41_ : β2 = true → β4 = false → ((ruleP A_n_.kind).ax) = true → v52 = (Iv A_n_.b) := hF.1
    have h37_ : (β2 = true → β4 = false → v48 = (Bo ((ruleP A_n_.kind).ax))) ∧ (¬ (β2 = true ∧ β4 = false) → v48 = undef) := hF.2.1; have h37u := h37_.2; replace h37_ := h37_.1
    clear hF
    refine doesG_gg (b := ((ruleP A_n_.kind).ax)) (c := β2 = true ∧ β4 = false) rfl (fun hc => ?_) (fun hc => ?_) (fun hc hg3 => ?_) (fun hc => ⟨fun hg1 hg2 hg3 => absurd ⟨⟨hg1, hg2⟩, hg3⟩ hc, Ext.refl _⟩)
    · obtain ⟨hg1, hg2⟩ := hc; obtain rfl := h37_ hg1 hg2; exact yld rfl rfl
    · obtain rfl := h37u hc; exact yldn rfl rfl
    obtain ⟨hg1, hg2⟩ := hc
    obtain rfl := h37_ hg1 hg2
    obtain rfl := h41_ hg1 hg2 hg3
    refine (does_call (args := #[(Iv A_n_.b), (Iv 0), (Iv 2)]) cal55 (evs rfl) (c_impl_in A_n_.b 0 2 _)).mono ?_; rintro v u' ⟨hx, hv⟩
    exact ⟨fun _ _ _ => hv, hx⟩
  refine RW_d _ rfl (fun v => by dsimp only [List.set]; try rfl) (fun u hu hF => ?_) (fun v54 => ?_)
  · have h37_ : (β2 = true → β4 = false → v48 = (Bo ((ruleP A_n_.kind).ax))) ∧ (¬ (β2 = true ∧ β4 = false) → v48 = undef) := hF.1; have h37u := h37_.2; replace h37_ := h37_.1
    have h42_ : β2 = true → β4 = false → ((ruleP A_n_.kind).ax) = true → v53 = (Bo (inI A_n_.b 0 2)) := hF.2.1
    have h34_ : (β2 = true → v45 = (Bo β4)) ∧ (¬ (β2 = true) → v45 = undef) := hF.2.2.1; have h34u := h34_.2; replace h34_ := h34_.1
    clear hF
    refine doesG_gg (b := β4) (c := β2 = true) rfl (fun hc => ?_) (fun hc => ?_) (fun hc hg2 => ?_) (fun hc => ⟨fun hg1 hg2 => absurd ⟨hg1, hg2⟩ hc, Ext.refl _⟩)
    · have hg1 := hc; obtain rfl := h34_ hg1; exact yld rfl rfl
    · obtain rfl := h34u hc; exact yldn rfl rfl
    have hg1 := hc
    obtain rfl := h34_ hg1
    skip
    obtain rfl := h37_ hg1 hg2
    replace h42_ := h42_ hg1 hg2
    refine (does_pick (b := ((ruleP A_n_.kind).ax)) (u := v53) (v := (Bo false)) (ev rfl) (ev rfl) (ev rfl)).mono ?_; rintro _ _ ⟨rfl, rfl⟩; refine ⟨fun _ _ => ?_, Ext.refl _⟩; rw [hβ5]; skip
    cases hbb : ((ruleP A_n_.kind).ax)
    all_goals first | (show _ = _; simp only [↓reduceIte, Bool.true_and, Bool.false_and, Bool.true_or, Bool.false_or, Bool.false_eq_true]; done) | (have e_ := h42_ hbb; subst e_; show _ = _; simp only [↓reduceIte, Bool.true_and, Bool.false_and, Bool.true_or, Bool.false_or, Bool.false_eq_true]; done) | rfl | (have e_ := h42_ hbb; subst e_; rfl) | (simp [hbb] at h42_ ⊢; first | done | rfl | (subst h42_; rfl) | simp_all) | (simp [hbb] at h42_ ⊢; done)
  refine RW_d _ rfl (fun v => by dsimp only [List.set]; try rfl) (fun u hu hF => ?_) (fun v55 => ?_)
  · have h34_ : (β2 = true → v45 = (Bo β4)) ∧ (¬ (β2 = true) → v45 = undef) := hF.1; have h34u := h34_.2; replace h34_ := h34_.1
    have h43_ : β2 = true → β4 = false → v54 = (Bo β5) := hF.2.1
    have h23_ : v34 = (Bo β2) := hF.2.2.1
    clear hF
    obtain rfl := h23_
    refine doesG_g (b := β2) rfl (yld rfl rfl) (fun hg1 => ?_) (fun hc => ⟨fun hg1 => absurd hg1 hc, Ext.refl _⟩)
    skip
    obtain rfl := h34_ hg1
    replace h43_ := h43_ hg1
    refine (does_pick (b := β4) (u := (Bo true)) (v := v54) (ev rfl) (ev rfl) (ev rfl)).mono ?_; rintro _ _ ⟨rfl, rfl⟩; refine ⟨fun _ => ?_, Ext.refl _⟩; skip
    cases hbb : β4
    all_goals first | (show _ = _; simp only [↓reduceIte, Bool.true_and, Bool.false_and, Bool.true_or, Bool.false_or, Bool.false_eq_true]; done) | (have e_ := h43_ hbb; subst e_; show _ = _; simp only [↓reduceIte, Bool.true_and, Bool.false_and, Bool.true_or, Bool.false_or, Bool.false_eq_true]; done) | rfl | (have e_ := h43_ hbb; subst e_; rfl) | (simp [hbb] at h43_ ⊢; first | done | rfl | (subst h43_; rfl) | simp_all) | (simp [hbb] at h43_ ⊢; done)
  refine RW_d _ rfl (fun v => by dsimp only [List.set]; try rfl) (fun u hu hF => ?_) (fun v56 => ?_)
  · have h23_ : v34 = (Bo β2) := hF.1
    have h44_ : β2 = true → v55 = (Bo (β4 || β5)) := hF.2.1
    clear hF
    refine doesG_un rfl ?_
    skip
    obtain rfl := h23_
    refine (does_pick (b := β2) (u := v55) (v := (Bo false)) (ev rfl) (ev rfl) (ev rfl)).mono ?_; rintro _ _ ⟨rfl, rfl⟩; refine ⟨?_, Ext.refl _⟩; skip
    cases hbb : β2
    all_goals first | (show _ = _; simp only [↓reduceIte, Bool.true_and, Bool.false_and, Bool.true_or, Bool.false_or, Bool.false_eq_true]; done) | (have e_ := h44_ hbb; subst e_; show _ = _; simp only [↓reduceIte, Bool.true_and, Bool.false_and, Bool.true_or, Bool.false_or, Bool.false_eq_true]; done) | rfl | (have e_ := h44_ hbb; subst e_; rfl) | (simp [hbb] at h44_ ⊢; first | done | rfl | (subst h44_; rfl) | simp_all) | (simp [hbb] at h44_ ⊢; done)
  refine RW_fin ?_; intro w57 E58 hP59
  obtain ⟨⟨⟨⟨⟨⟨⟨⟨⟨⟨⟨⟨⟨⟨⟨⟨⟨⟨⟨⟨⟨⟨⟨⟨⟨⟨⟨⟨⟨⟨⟨⟨⟨-, -⟩, -⟩, -⟩, -⟩, -⟩, -⟩, -⟩, -⟩, -⟩, -⟩, -⟩, -⟩, -⟩, -⟩, -⟩, -⟩, -⟩, -⟩, -⟩, -⟩, -⟩, -⟩, -⟩, -⟩, -⟩, -⟩, -⟩, -⟩, -⟩, -⟩, -⟩, -⟩, q60⟩ := hP59
  have X61 := Ext.gr X22 E58
  have q60 : v56 = (Bo (β2 && (β4 || β5))) := q60
  obtain rfl := q60
  show wpList _ _ _ _ (fr [_, _, _, _, _, _, _, _, _, _, _, _, _, _, _, _, _, _, _, _, _, _, _, _, _, _, _, _, _, _, _, _, _, _, _, _, _, _, _, _, _, _, _, _, _, _]) _
  refine q_is rfl rfl (does_assign (u := (Bo (β2 && (β4 || β5)))) (ev rfl)) (by dsimp only [List.set]; try rfl) ?_
  refine wpList_nil (hK23 _ _ ?_)
  refine wp_ret ?_
  refine ret_val (v := (Bo (β2 && (β4 || β5)))) (res_T rfl (slot rfl)) X61 ?_
  have x62 : (axOk A_n_) = (β2 && (β4 || β5)) := by first | with_reducible rfl | (simp only [axOk, ruleP, hβ1, hβ2, hβ3, hβ4, hβ5]; done) | (simp [axOk, ruleP, hβ1, hβ2, hβ3, hβ4, hβ5]; done) | rfl
  exact (by first | with_reducible rfl | rw [x62] | rfl)

/- impl.childrenOf -/
theorem c_impl_childrenOf (n__b : Nat) (n__o : Nat) (n_ : List Value) (A_n_ : NodeT) (w : World) (hc_n_ : Cells w n__b n__o n_) (hv_n_ : RNodeT w A_n_ n_) : Gives Try.prog 58 #[(Pt n__b n__o)] w (fun v w' => ∃ y_1 : Value, v = y_1 ∧ Hang w.heap.size w' (fun u => Sl RI 1 u y_1 (chL A_n_))) := by
  obtain ⟨y1, rfl, h2⟩ := hv_n_
  have hs5 := h2; have hs5l := Sl.len h2; obtain ⟨p3, q4, rfl⟩ := Sl.shape h2
  have hrc : 0 ≤ (ruleP A_n_.kind).ch ∧ (ruleP A_n_.kind).ch ≤ 2 := @rlCh_le A_n_.kind
  refine enter [(Pt n__b n__o), Ud, Ud, Ud, Ud, Ud, Ud, Ud, Ud, Ud, Ud, Ud, Ud, Ud, Ud, Ud, Ud, Ud, Ud, Ud, Ud, Ud, Ud, Ud, Ud] Try.func58 rfl Try.ntmps58 rfl ?_
  refine wp_seq_k fun K6 hK6 => ?_
  refine wp_region_lit ?_
  refine q_is rfl rfl (does_assign (u := (.slice none 0 0)) (ev rfl)) (by dsimp only [List.set]; try rfl) ?_
  refine wpList_nil (hK6 _ _ ?_)
  refine wp_seq_k fun K7 hK7 => ?_
  refine wp_region_lit ?_
  refine q_is rfl rfl (does_move (u := (Pt n__b n__o)) (ev rfl)) (by dsimp only [List.set]; try rfl) ?_
  refine q_is rfl rfl (does_nilCheck (ev rfl)) (by dsimp only [List.set]; try rfl) ?_
  refine q_is rfl rfl (does_fieldAddr (ev rfl) fa102_0) (by dsimp only [List.set]; try rfl) ?_
  refine q_is rfl rfl (does_load (u := (Iv A_n_.kind)) (ev rfl) Try.isAgg2 (Cells.at hc_n_ 0 rfl)) (by dsimp only [List.set]; try rfl) ?_
  refine seqd rfl rfl (does_call (args := #[(Iv A_n_.kind)]) cal85 (evs rfl) (c_impl_ruleOf A_n_.kind _)) ?_; rintro _ w9 ⟨E8, ⟨_, rfl, rfl⟩⟩
  have X10 := Ext.gr (Ext.refl w) E8
  show wpList _ _ _ _ (fr [_, _, _, _, _, _, _, _, _, _, _, _, _, _, _, _, _, _, _, _, _, _, _, _, _]) _
  refine q_is rfl rfl (does_move (u := (.tuple #[(.agg #[(Iv ((ruleP A_n_.kind).num)), (Iv ((ruleP A_n_.kind).ch)), (Bo ((ruleP A_n_.kind).ax)), (Iv ((ruleP A_n_.kind).sg))]), (Bo (rlOk A_n_.kind))])) (ev rfl)) (by dsimp only [List.set]; try rfl) ?_
  refine q_is rfl rfl (does_extract (vs := #[(.agg #[(Iv ((ruleP A_n_.kind).num)), (Iv ((ruleP A_n_.kind).ch)), (Bo ((ruleP A_n_.kind).ax)), (Iv ((ruleP A_n_.kind).sg))]), (Bo (rlOk A_n_.kind))]) (u := (.agg #[(Iv ((ruleP A_n_.kind).num)), (Iv ((ruleP A_n_.kind).ch)), (Bo ((ruleP A_n_.kind).ax)), (Iv ((ruleP A_n_.kind).sg))])) (ev rfl) rfl) (by dsimp only [List.set]; try rfl) ?_
  refine q_is rfl rfl (does_extract (vs := #[(.agg #[(Iv ((ruleP A_n_.kind).num)), (Iv ((ruleP A_n_.kind).ch)), (Bo ((ruleP A_n_.kind).ax)), (Iv ((ruleP A_n_.kind).sg))]), (Bo (rlOk A_n_.kind))]) (u := (Bo (rlOk A_n_.kind))) (ev rfl) rfl) (by dsimp only [List.set]; try rfl) ?_
  refine seqd rfl rfl (does_alloc z141) ?_; rintro _ w15 ⟨b11, rfl, hb12, hB13, E14⟩
  have n16 : n__b < b11 := Nat.lt_of_lt_of_le (cell_lt (Cells.at (hc_n_.ext X10) 0 rfl)) hb12
  have g17 : w.heap.size ≤ b11 := Nat.le_trans (Below.size X10) hb12
  change Blk _ _ [(Iv 0), (Iv 0), (Bo false), (Iv 0)] at hB13
  have X18 := Ext.gr X10 E14
  show wpList _ _ _ _ (fr [_, _, _, _, _, _, _, _, _, _, _, _, _, _, _, _, _, _, _, _, _, _, _, _, _]) _
  refine seqn rfl rfl (does_store (n := 4) (cs := [(Iv 0), (Iv 0), (Bo false), (Iv 0)]) (u := (.agg #[(Iv ((ruleP A_n_.kind).num)), (Iv ((ruleP A_n_.kind).ch)), (Bo ((ruleP A_n_.kind).ax)), (Iv ((ruleP A_n_.kind).sg))])) (ev rfl) (ev rfl) Try.sizeOf141 rfl hB13 (Nat.le_of_ble_eq_true rfl) rfl) ?_; rintro _ w21 ⟨rfl, W19, hB20⟩
  change Blk _ _ [(Iv ((ruleP A_n_.kind).num)), (Iv ((ruleP A_n_.kind).ch)), (Bo ((ruleP A_n_.kind).ax)), (Iv ((ruleP A_n_.kind).sg))] at hB20
  have X22 := Below.wr X18 W19 g17
  refine q_is rfl rfl (does_assign (u := (Bo (rlOk A_n_.kind))) (ev rfl)) (by dsimp only [List.set]; try rfl) ?_
  refine wpList_nil (hK7 _ _ ?_)
  refine wp_seq_k fun K23 hK23 => ?_
  refine region_draw (
    [Fact.pure [] (fun v => v = (Pt n__b n__o)),
    Fact.pure [13] (fun v => v = (Pt n__b n__o)),
    Fact.pure [14] (fun v => v = (Pt n__b (n__o + 1))),
    Fact.pure [15] (fun v => v = (Iv A_n_.a)),
    Fact.pure [] (fun v => v = (Pt n__b n__o)),
    Fact.pure [17] (fun v => v = (Pt n__b n__o)),
    Fact.pure [18] (fun v => v = (Pt n__b (n__o + 2))),
    Fact.pure [19] (fun v => v = (Iv A_n_.b)),
    Fact.mem [16, 20] (fun v w' => ∃ b : Nat, v = .slice (some ⟨b, 0, none⟩) 2 2 ∧ w21.heap.size ≤ b ∧ Blk w' b [(Iv A_n_.a), (Iv A_n_.b)]) (by rintro v w1 w2 hx ⟨b, rfl, hb, hB⟩; exact ⟨b, rfl, hb, (hB.ext hx)⟩),
    Fact.pure [] (fun v => v = (Pt b11 1)),
    Fact.pure [22] (fun v => v = (Iv ((ruleP A_n_.kind).ch))),
    Fact.mem [21, 23] (fun v w' => ∃ y_1 : Value, v = y_1 ∧ Hang w21.heap.size w' (fun u => Sl RI 1 u y_1 ([A_n_.a, A_n_.b].take ((ruleP A_n_.kind).ch).toNat))) (by rintro v w1 w2 hx ⟨z1, rfl, k0⟩; exact ⟨_, rfl, (k0.ext hx)⟩)]) mixed (by kernel_rfl) (by intro _ _ d _ _ h; cases d <;> exact h) ?_
  obtain ⟨w24, hw26⟩ : ∃ w', w' = World.drew w21 := ⟨_, rfl⟩; rw [← hw26]; have E25 : Ext w21 w24 := by rw [hw26]; exact Ext.draw _
  clear hw26
  have X27 := Ext.gr X22 E25
  refine RW_d _ rfl (fun v => by dsimp only [List.set]; try rfl) (fun u hu hF => ?_) (fun v28 => ?_)
  · clear hF
    refine doesG_un rfl ?_
    refine (does_move (u := (Pt n__b n__o)) (ev rfl)).mono ?_; rintro _ _ ⟨rfl, rfl⟩
    exact ⟨rfl, Ext.refl _⟩
  refine RW_d _ rfl (fun v => by dsimp only [List.set]; try rfl) (fun u hu hF => ?_) (fun v29 => ?_)
  · have h13_ : v28 = (Pt n__b n__o) := hF.1
    clear hF
    refine doesG_un rfl ?_
    obtain rfl := h13_
    refine (does_nilCheck (ev rfl)).mono ?_; rintro _ _ ⟨rfl, rfl⟩
    exact ⟨rfl, Ext.refl _⟩
  refine RW_d _ rfl (fun v => by dsimp only [List.set]; try rfl) (fun u hu hF => ?_) (fun v30 => ?_)
  · have h14_ : v29 = (Pt n__b n__o) := hF.1
    clear hF
    refine doesG_un rfl ?_
    obtain rfl := h14_
    refine (does_fieldAddr (ev rfl) fa102_1).mono ?_; rintro _ _ ⟨rfl, rfl⟩
    exact ⟨rfl, Ext.refl _⟩
  refine RW_d _ rfl (fun v => by dsimp only [List.set]; try rfl) (fun u hu hF => ?_) (fun v31 => ?_)
  · have h15_ : v30 = (Pt n__b (n__o + 1)) := hF.1
    clear hF
    refine doesG_un rfl ?_
    obtain rfl := h15_
    refine (does_load (u := (Iv A_n_.a)) (ev rfl) Try.isAgg2 (Cells.at ((hc_n_.ext (Ext.gr X22 E25)).ext hu) 1 rfl)).mono ?_; rintro _ _ ⟨rfl, rfl⟩
    exact ⟨rfl, Ext.refl _⟩
  refine RW_d _ rfl (fun v => by dsimp only [List.set]; try rfl) (fun u hu hF => ?_) (fun v32 => ?_)
  · clear hF
    refine doesG_un rfl ?_
    refine (does_move (u := (Pt n__b n__o)) (ev rfl)).mono ?_; rintro _ _ ⟨rfl, rfl⟩
    exact ⟨rfl, Ext.refl _⟩
  refine RW_d _ rfl (fun v => by dsimp only [List.set]; try rfl) (fun u hu hF => ?_) (fun v33 => ?_)
  · have h17_ : v32 = (Pt n__b n__o) := hF.1
    clear hF
    refine doesG_un rfl ?_
    obtain rfl := h17_
    refine (does_nilCheck (ev rfl)).mono ?_; rintro _ _ ⟨rfl, rfl⟩
    exact ⟨rfl, Ext.refl _⟩
  refine RW_d _ rfl (fun v => by dsimp only [List.set]; try rfl) (fun u hu hF => ?_) (fun v34 => ?_)
  · have h18_ : v33 = (Pt n__b n__o) := hF.1
    clear hF
    refine doesG_un rfl ?_
    obtain rfl := h18_
    refine (does_fieldAddr (ev rfl) fa102_2).mono ?_; rintro _ _ ⟨rfl, rfl⟩
    exact ⟨rfl, Ext.refl _⟩
  refine RW_d _ rfl (fun v => by dsimp only [List.set]; try rfl) (fun u hu hF => ?_) (fun v35 => ?_)
  · have h19_ : v34 = (Pt n__b (n__o + 2)) := hF.1
    clear hF
    refine doesG_un rfl ?_
    obtain rfl := h19_
    refine (does_load (u := (Iv A_n_.b)) (ev rfl) Try.isAgg2 (Cells.at ((hc_n_.ext (Ext.gr X22 E25)).ext hu) 2 rfl)).mono ?_; rintro _ _ ⟨rfl, rfl⟩
    exact ⟨rfl, Ext.refl _⟩
  refine RW_d _ rfl (fun v => by dsimp only [List.set]; try rfl) (fun u hu hF => ?_) (fun v36 => ?_)
  · have h16_ : v31 = (Iv A_n_.a) := hF.1
    have h20_ : v35 = (Iv A_n_.b) := hF.2.1
    clear hF
    refine doesG_un rfl ?_
    obtain rfl := h16_
    obtain rfl := h20_
    refine (does_buildSlice (e := 2) (parts' := [(0, (Iv A_n_.a)), (1, (Iv A_n_.b))]) (cells := [(Iv A_n_.a), (Iv A_n_.b)]) (evp rfl) (fun _ => by kernel_rfl)).mono ?_; rintro _ _ ⟨b, rfl, hb, hB, hx⟩
    exact ⟨⟨b, rfl, Nat.le_trans (Nat.le_trans (Below.size E25) (Below.size hu)) hb, hB⟩, hx⟩
  refine RW_d _ rfl (fun v => by dsimp only [List.set]; try rfl) (fun u hu hF => ?_) (fun v37 => ?_)
  · clear hF
    refine doesG_un rfl ?_
    refine (does_fieldAddr (ev rfl) fa141_1).mono ?_; rintro _ _ ⟨rfl, rfl⟩
    exact ⟨rfl, Ext.refl _⟩
  refine RW_d _ rfl (fun v => by dsimp only [List.set]; try rfl) (fun u hu hF => ?_) (fun v38 => ?_)
  · have h22_ : v37 = (Pt b11 1) := hF.1
    clear hF
    refine doesG_un rfl ?_
    obtain rfl := h22_
    refine (does_load (u := (Iv ((ruleP A_n_.kind).ch))) (ev rfl) Try.isAgg3 (Cells.at (Blk.cells ((hB20.ext E25).ext hu)) 1 rfl)).mono ?_; rintro _ _ ⟨rfl, rfl⟩
    exact ⟨rfl, Ext.refl _⟩
  refine RW_d _ rfl (fun v => by dsimp only [List.set]; try rfl) (fun u hu hF => ?_) (fun v39 => ?_)
  · have h21_ : ∃ b : Nat, v36 = .slice (some ⟨b, 0, none⟩) 2 2 ∧ w21.heap.size ≤ b ∧ Blk u b [(Iv A_n_.a), (Iv A_n_.b)] := hF.1
    have h23_ : v38 = (Iv ((ruleP A_n_.kind).ch)) := hF.2.1
    clear hF
    refine doesG_un rfl ?_
    obtain ⟨b21_, rfl, hb21_, hB21_⟩ := h21_
    obtain rfl := h23_
    refine (does_sliceH (R := RI) (k := 1) (xs := [A_n_.a, A_n_.b]) (h := ((ruleP A_n_.kind).ch)) (B := w21.heap.size) Try.underlying100 Try.sizeOf2 (ev rfl) (ev rfl) (fun u hu => Sl_lit2 (Blk.hang hB21_ hb21_ u hu) rfl rfl) (by omega) (by first | omega | (simp only [List.length_cons, List.length_nil]; omega))).mono ?_; rintro v u' ⟨hx, y, hv, hh⟩
    exact ⟨⟨y, hv, hh⟩, hx⟩
  refine RW_fin ?_; intro w40 E41 hP42
  obtain ⟨⟨⟨⟨⟨⟨⟨⟨⟨⟨⟨⟨-, -⟩, -⟩, -⟩, -⟩, -⟩, -⟩, -⟩, -⟩, -⟩, -⟩, -⟩, q43⟩ := hP42
  have X44 := Ext.gr X27 E41
  have q43 : ∃ y_1 : Value, v39 = y_1 ∧ Hang w21.heap.size w40 (fun u => Sl RI 1 u y_1 ([A_n_.a, A_n_.b].take ((ruleP A_n_.kind).ch).toNat)) := q43
  obtain ⟨y46, rfl, hh45⟩ := q43
  have n47 : b11 < w21.heap.size := Blk.lt hB20
  obtain ⟨p48, q49, rfl⟩ := Sl.shape hh45.get
  show wpList _ _ _ _ (fr [_, _, _, _, _, _, _, _, _, _, _, _, _, _, _, _, _, _, _, _, _, _, _, _, _]) _
  refine q_is rfl rfl (does_assign (u := (.slice p48 (([A_n_.a, A_n_.b].take ((ruleP A_n_.kind).ch).toNat).length) q49)) (ev rfl)) (by dsimp only [List.set]; try rfl) ?_
  refine wpList_nil (hK23 _ _ ?_)
  refine wp_ret ?_
  refine ret_val (v := (.slice p48 (([A_n_.a, A_n_.b].take ((ruleP A_n_.kind).ch).toNat).length) q49)) (res_T rfl (slot rfl)) X44 ?_
  have x50 : ([A_n_.a, A_n_.b].take ((ruleP A_n_.kind).ch).toNat) = (chL A_n_) := by first | with_reducible rfl | (simp only [chL, ruleP]; done) | (simp [chL, ruleP]; done) | rfl
  exact ⟨(.slice p48 (([A_n_.a, A_n_.b].take ((ruleP A_n_.kind).ch).toNat).length) q49), rfl, (Hang.castL (hh45.le (Below.size (Below.wr (Ext.gr (Ext.gr (Ext.refl _) E8) E14) W19 g17))) x50)⟩

/- slices.IndexFunc[[]int,int] -/
theorem c_slices_IndexFunc_int_int (xs : Value) (L_xs : List Int) (f : Value) (pr_f : Int → Bool) (w : World) (hv_xs : Sl RI 1 w xs L_xs) (hv_f : ∃ fi fst cap, f = .func (.func fi) fst cap ∧ (∀ args w, (callFunc fi args).run Try.prog w = .ok (.enter fi args) w) ∧ ∀ (n0 : Int) u, Ext w u → Gives Try.prog fi (fst ++ #[.int .i64 n0] ++ cap) u (fun v _ => v = .bool (pr_f n0))) : Gives Try.prog 88 #[xs, f] w (fun v w' => v = (Iv (findI pr_f L_xs))) := by
  have hlen_xs := Sl.len hv_xs; obtain ⟨p_xs, q_xs, rfl⟩ := Sl.shape hv_xs
  obtain ⟨f_f, s_f, c_f, rfl, hcal_f, hg_f⟩ := hv_f
  refine enter [(.slice p_xs L_xs.length q_xs), (.func (.func f_f) s_f c_f), Ud, Ud, Ud, Ud, Ud, Ud, Ud, Ud, Ud, Ud, Ud, Ud, Ud, Ud, Ud, Ud, Ud] Try.func88 rfl Try.ntmps88 rfl ?_
  refine wp_seq_k fun K1 hK1 => ?_
  refine wp_region_lit ?_
  refine q_is (l' := [(.slice p_xs L_xs.length q_xs), (.func (.func f_f) s_f c_f), Ud, Ud, (Iv 0), Ud, Ud, Ud, Ud, Ud, Ud, Ud, Ud, Ud, Ud, Ud, Ud, Ud, Ud]) rfl rfl (does_assign (u := (Iv 0)) (ev rfl)) rfl ?_
  refine wpList_nil (hK1 _ _ ?_)
  refine wp_seq_k fun K2 hK2 => ?_
  refine wp_seq_k fun K3 hK3 => ?_
  refine wp_region_lit ?_
  refine q_is (l' := [(.slice p_xs L_xs.length q_xs), (.func (.func f_f) s_f c_f), Ud, Ud, (Iv 0), Ud, (.slice p_xs L_xs.length q_xs), Ud, Ud, Ud, Ud, Ud, Ud, Ud, Ud, Ud, Ud, Ud, Ud]) rfl rfl (does_move (u := (.slice p_xs L_xs.length q_xs)) (ev rfl)) rfl ?_
  refine q_is (l' := [(.slice p_xs L_xs.length q_xs), (.func (.func f_f) s_f c_f), Ud, Ud, (Iv 0), Ud, (.slice p_xs L_xs.length q_xs), (Iv (L_xs.length : Int)), Ud, Ud, Ud, Ud, Ud, Ud, Ud, Ud, Ud, Ud, Ud]) rfl rfl (does_len_slice Try.underlying108 (ev rfl)) rfl ?_
  refine q_is (l' := [(.slice p_xs L_xs.length q_xs), (.func (.func f_f) s_f c_f), Ud, Ud, (Iv 0), Ud, (.slice p_xs L_xs.length q_xs), (Iv (L_xs.length : Int)), (Iv 0), Ud, Ud, Ud, Ud, Ud, Ud, Ud, Ud, Ud, Ud]) rfl rfl (does_move (u := (Iv 0)) (ev rfl)) rfl ?_
  refine wpList_nil (hK3 _ _ ?_)
  refine wp_block ?_
  refine loop_ghost (σ := Nat) (fun k a w' => ∃ u4 : Nat → Value, a = fr [(.slice p_xs L_xs.length q_xs), (.func (.func f_f) s_f c_f), Ud, Ud, (u4 4), (u4 5), (.slice p_xs L_xs.length q_xs), (Iv (L_xs.length : Int)), (Iv (k : Int)), (u4 9), (u4 10), (u4 11), (u4 12), (u4 13), (u4 14), (u4 15), (u4 16), (u4 17), (u4 18)] ∧ Ext w w' ∧ (k ≤ L_xs.length ∧ NoneTo pr_f L_xs k)) (fun k => L_xs.length - k) 0 ?_ ?_
  · refine ⟨fun t => (([(.slice p_xs L_xs.length q_xs), (.func (.func f_f) s_f c_f), Ud, Ud, (Iv 0), Ud, (.slice p_xs L_xs.length q_xs), (Iv (L_xs.length : Int)), (Iv 0), Ud, Ud, Ud, Ud, Ud, Ud, Ud, Ud, Ud, Ud] : List Value)[t]?).getD undef, rfl, Ext.refl _, ?_⟩
    exact ⟨Nat.zero_le _, NoneTo.zero⟩
  · rintro k a w5 ⟨u4, rfl, E6, ⟨hk, hno⟩⟩
    have X8 := Ext.gr (Ext.refl w) E6
    refine wp_seq_k fun K9 hK9 => ?_
    refine wp_region_lit ?_
    refine q_is (l' := [(.slice p_xs L_xs.length q_xs), (.func (.func f_f) s_f c_f), Ud, Ud, (u4 4), (u4 5), (.slice p_xs L_xs.length q_xs), (Iv (L_xs.length : Int)), (Iv (k : Int)), (Bo (icmp .lss (k : Int) (L_xs.length : Int))), (u4 10), (u4 11), (u4 12), (u4 13), (u4 14), (u4 15), (u4 16), (u4 17), (u4 18)]) rfl rfl (does_icmp (p := (k : Int)) (q := (L_xs.length : Int)) (.inr (.inr (.inl rfl))) (ev rfl) (ev rfl)) rfl ?_
    refine wpList_nil (hK9 _ _ ?_)
    refine wp_seq_k fun K10 hK10 => ?_
    refine wp_cond_split (t := icmp .lss (k : Int) (L_xs.length : Int)) (ev rfl) (fun c11 => ?_) (fun c11 => ?_)
    · have c11' := c11
      (try simp only [icmp, Bool.and_eq_true, Bool.or_eq_true, Bool.and_eq_false_iff, Bool.or_eq_false_iff, Bool.not_eq_true', Bool.not_eq_false', decide_eq_true_eq, decide_eq_false_iff_not, beq_iff_eq, bne_iff_ne, beq_eq_false_iff_ne, bne_eq_false_iff_eq] at c11')
      refine wp_skip (hK10 _ _ ?_)
      refine wp_seq_k fun K12 hK12 => ?_
      refine wp_block ?_
      refine wp_seq_k fun K13 hK13 => ?_
      refine wp_region_lit ?_
      refine q_is (l' := [(.slice p_xs L_xs.length q_xs), (.func (.func f_f) s_f c_f), Ud, Ud, (u4 4), (u4 5), (.slice p_xs L_xs.length q_xs), (Iv (L_xs.length : Int)), (Iv (k : Int)), (Bo (icmp .lss (k : Int) (L_xs.length : Int))), (Iv (k : Int)), (u4 11), (u4 12), (u4 13), (u4 14), (u4 15), (u4 16), (u4 17), (u4 18)]) rfl rfl (does_move (u := (Iv (k : Int))) (ev rfl)) rfl ?_
      refine q_is (l' := [(.slice p_xs L_xs.length q_xs), (.func (.func f_f) s_f c_f), Ud, Ud, (u4 4), (Iv (k : Int)), (.slice p_xs L_xs.length q_xs), (Iv (L_xs.length : Int)), (Iv (k : Int)), (Bo (icmp .lss (k : Int) (L_xs.length : Int))), (Iv (k : Int)), (u4 11), (u4 12), (u4 13), (u4 14), (u4 15), (u4 16), (u4 17), (u4 18)]) rfl rfl (does_assign (u := (Iv (k : Int))) (ev rfl)) rfl ?_
      refine wpList_nil (hK13 _ _ ?_)
      refine wp_seq_k fun K14 hK14 => ?_
      refine wp_region_lit ?_
      refine q_is (l' := [(.slice p_xs L_xs.length q_xs), (.func (.func f_f) s_f c_f), Ud, Ud, (u4 4), (Iv (k : Int)), (.slice p_xs L_xs.length q_xs), (Iv (L_xs.length : Int)), (Iv (k : Int)), (Bo (icmp .lss (k : Int) (L_xs.length : Int))), (Iv (k : Int)), (.func (.func f_f) s_f c_f), (u4 12), (u4 13), (u4 14), (u4 15), (u4 16), (u4 17), (u4 18)]) rfl rfl (does_move (u := (.func (.func f_f) s_f c_f)) (ev rfl)) rfl ?_
      refine q_is (l' := [(.slice p_xs L_xs.length q_xs), (.func (.func f_f) s_f c_f), Ud, Ud, (u4 4), (Iv (k : Int)), (.slice p_xs L_xs.length q_xs), (Iv (L_xs.length : Int)), (Iv (k : Int)), (Bo (icmp .lss (k : Int) (L_xs.length : Int))), (Iv (k : Int)), (.func (.func f_f) s_f c_f), (.slice p_xs L_xs.length q_xs), (u4 13), (u4 14), (u4 15), (u4 16), (u4 17), (u4 18)]) rfl rfl (does_move (u := (.slice p_xs L_xs.length q_xs)) (ev rfl)) rfl ?_
      refine q_is (l' := [(.slice p_xs L_xs.length q_xs), (.func (.func f_f) s_f c_f), Ud, Ud, (u4 4), (Iv (k : Int)), (.slice p_xs L_xs.length q_xs), (Iv (L_xs.length : Int)), (Iv (k : Int)), (Bo (icmp .lss (k : Int) (L_xs.length : Int))), (Iv (k : Int)), (.func (.func f_f) s_f c_f), (.slice p_xs L_xs.length q_xs), (Iv (k : Int)), (u4 14), (u4 15), (u4 16), (u4 17), (u4 18)]) rfl rfl (does_move (u := (Iv (k : Int))) (ev rfl)) rfl ?_
      obtain ⟨el1, hel1⟩ : ∃ e, L_xs[k]? = some e := ⟨_, List.getElem?_eq_getElem (by omega)⟩
      refine seqd rfl rfl (does_indexSl (R := RI) (i := (k : Int)) (xs := L_xs) (e := el1) Try.underlying108 Try.sizeOf3 (ev rfl) (ev rfl) (Sl.ext hv_xs RI.mono X8) (by omega) hel1) ?_; rintro _ w5 ⟨b15, o16, _, rfl, hc18, rfl, rfl⟩
      show wpList _ _ _ _ (fr [(.slice p_xs L_xs.length q_xs), (.func (.func f_f) s_f c_f), Ud, Ud, (u4 4), (Iv (k : Int)), (.slice p_xs L_xs.length q_xs), (Iv (L_xs.length : Int)), (Iv (k : Int)), (Bo (icmp .lss (k : Int) (L_xs.length : Int))), (Iv (k : Int)), (.func (.func f_f) s_f c_f), (.slice p_xs L_xs.length q_xs), (Iv (k : Int)), (Pt b15 o16), (u4 15), (u4 16), (u4 17), (u4 18)]) _
      refine q_is (l' := [(.slice p_xs L_xs.length q_xs), (.func (.func f_f) s_f c_f), Ud, Ud, (u4 4), (Iv (k : Int)), (.slice p_xs L_xs.length q_xs), (Iv (L_xs.length : Int)), (Iv (k : Int)), (Bo (icmp .lss (k : Int) (L_xs.length : Int))), (Iv (k : Int)), (.func (.func f_f) s_f c_f), (.slice p_xs L_xs.length q_xs), (Iv (k : Int)), (Pt b15 o16), (Iv el1), (u4 16), (u4 17), (u4 18)]) rfl rfl (does_load (u := (Iv el1)) (ev rfl) Try.isAgg3 (Cells.at hc18 0 rfl)) rfl ?_
      refine seqd rfl rfl (does_callf (args := #[(Iv el1)]) (ev rfl) hcal_f (evs rfl) (hg_f el1 _ X8 )) ?_; rintro _ w20 ⟨E19, rfl⟩
      have X21 := Ext.gr X8 E19
      show wpList _ _ _ _ (fr [(.slice p_xs L_xs.length q_xs), (.func (.func f_f) s_f c_f), Ud, Ud, (u4 4), (Iv (k : Int)), (.slice p_xs L_xs.length q_xs), (Iv (L_xs.length : Int)), (Iv (k : Int)), (Bo (icmp .lss (k : Int) (L_xs.length : Int))), (Iv (k : Int)), (.func (.func f_f) s_f c_f), (.slice p_xs L_xs.length q_xs), (Iv (k : Int)), (Pt b15 o16), (Iv el1), (Bo (pr_f el1)), (u4 17), (u4 18)]) _
      refine wpList_nil (hK14 _ _ ?_)
      refine wp_cond_split (t := pr_f el1) (ev rfl) (fun c22 => ?_) (fun c22 => ?_)
      · have c22' := c22
        refine wp_seq_k fun K23 hK23 => ?_
        refine wp_region_lit ?_
        refine q_is (l' := [(.slice p_xs L_xs.length q_xs), (.func (.func f_f) s_f c_f), Ud, Ud, (u4 4), (Iv (k : Int)), (.slice p_xs L_xs.length q_xs), (Iv (L_xs.length : Int)), (Iv (k : Int)), (Bo (icmp .lss (k : Int) (L_xs.length : Int))), (Iv (k : Int)), (.func (.func f_f) s_f c_f), (.slice p_xs L_xs.length q_xs), (Iv (k : Int)), (Pt b15 o16), (Iv el1), (Bo (pr_f el1)), (Iv (k : Int)), (u4 18)]) rfl rfl (does_move (u := (Iv (k : Int))) (ev rfl)) rfl ?_
        refine q_is (l' := [(.slice p_xs L_xs.length q_xs), (.func (.func f_f) s_f c_f), Ud, Ud, (Iv (k : Int)), (Iv (k : Int)), (.slice p_xs L_xs.length q_xs), (Iv (L_xs.length : Int)), (Iv (k : Int)), (Bo (icmp .lss (k : Int) (L_xs.length : Int))), (Iv (k : Int)), (.func (.func f_f) s_f c_f), (.slice p_xs L_xs.length q_xs), (Iv (k : Int)), (Pt b15 o16), (Iv el1), (Bo (pr_f el1)), (Iv (k : Int)), (u4 18)]) rfl rfl (does_assign (u := (Iv (k : Int))) (ev rfl)) rfl ?_
        refine wpList_nil (hK23 _ _ ?_)
        refine wp_ret ?_
        dsimp only [Exit.then, Exit.inBlock]
        refine ret_val (v := (Iv (k : Int))) (res_T rfl (slot rfl)) X21 ?_
        try simp only [hel1] at c11 c22
        have x24 : (findI pr_f L_xs : Int) = (k : Int) := by first | exact findI_at hno (by assumption) (by simp_all) | exact findI_none hno (by omega)
        exact (by first | with_reducible rfl | rw [x24] | rfl)
      have c22' := c22
      refine wp_skip (hK12 _ _ ?_)
      refine wp_region_lit ?_
      refine q_is (l' := [(.slice p_xs L_xs.length q_xs), (.func (.func f_f) s_f c_f), Ud, Ud, (u4 4), (Iv (k : Int)), (.slice p_xs L_xs.length q_xs), (Iv (L_xs.length : Int)), (Iv (k : Int)), (Bo (icmp .lss (k : Int) (L_xs.length : Int))), (Iv (k : Int)), (.func (.func f_f) s_f c_f), (.slice p_xs L_xs.length q_xs), (Iv (k : Int)), (Pt b15 o16), (Iv el1), (Bo (pr_f el1)), (u4 17), (Iv ((k : Int) + 1))]) rfl rfl (does_iarith (p := (k : Int)) (q := 1) (r := (k : Int) + 1) (ev rfl) (ev rfl) (.inl ⟨rfl, (in_i64 (by omega) (by omega)).symm⟩)) rfl ?_
      refine q_is (l' := [(.slice p_xs L_xs.length q_xs), (.func (.func f_f) s_f c_f), Ud, Ud, (u4 4), (Iv (k : Int)), (.slice p_xs L_xs.length q_xs), (Iv (L_xs.length : Int)), (Iv ((k : Int) + 1)), (Bo (icmp .lss (k : Int) (L_xs.length : Int))), (Iv (k : Int)), (.func (.func f_f) s_f c_f), (.slice p_xs L_xs.length q_xs), (Iv (k : Int)), (Pt b15 o16), (Iv el1), (Bo (pr_f el1)), (u4 17), (Iv ((k : Int) + 1))]) rfl rfl (does_move (u := (Iv ((k : Int) + 1))) (ev rfl)) rfl ?_
      refine wpList_nil ?_
      refine ⟨k + 1, ⟨fun t => (([(.slice p_xs L_xs.length q_xs), (.func (.func f_f) s_f c_f), Ud, Ud, (u4 4), (Iv (k : Int)), (.slice p_xs L_xs.length q_xs), (Iv (L_xs.length : Int)), (Iv ((k : Int) + 1)), (Bo (icmp .lss (k : Int) (L_xs.length : Int))), (Iv (k : Int)), (.func (.func f_f) s_f c_f), (.slice p_xs L_xs.length q_xs), (Iv (k : Int)), (Pt b15 o16), (Iv el1), (Bo (pr_f el1)), (u4 17), (Iv ((k : Int) + 1))] : List Value)[t]?).getD undef, ?_, (Ext.gr E6 E19), ?_⟩, ?_⟩
      · first | rfl | (simp only [Nat.cast_add, Nat.cast_one, Int.natCast_add, Int.natCast_one]; rfl)
      · exact ⟨by omega, NoneTo.step hno (by assumption) (by simp_all)⟩
      · omega
    have c11' := c11
    (try simp only [icmp, Bool.and_eq_true, Bool.or_eq_true, Bool.and_eq_false_iff, Bool.or_eq_false_iff, Bool.not_eq_true', Bool.not_eq_false', decide_eq_true_eq, decide_eq_false_iff_not, beq_iff_eq, bne_iff_ne, beq_eq_false_iff_ne, bne_eq_false_iff_eq] at c11')
    refine wp_exit ?_
    refine hK2 _ _ ?_
    refine wp_seq_k fun K25 hK25 => ?_
    refine wp_region_lit ?_
    refine q_is (l' := [(.slice p_xs L_xs.length q_xs), (.func (.func f_f) s_f c_f), Ud, Ud, (Iv (-1)), (u4 5), (.slice p_xs L_xs.length q_xs), (Iv (L_xs.length : Int)), (Iv (k : Int)), (Bo (icmp .lss (k : Int) (L_xs.length : Int))), (u4 10), (u4 11), (u4 12), (u4 13), (u4 14), (u4 15), (u4 16), (u4 17), (u4 18)]) rfl rfl (does_assign (u := (Iv (-1))) (ev rfl)) rfl ?_
    refine wpList_nil (hK25 _ _ ?_)
    refine wp_ret ?_
    refine ret_val (v := (Iv (-1))) (res_T rfl (slot rfl)) X8 ?_
    have x26 : (findI pr_f L_xs : Int) = (-1) := by first | exact findI_at hno (by assumption) (by simp_all) | exact findI_none hno (by omega)
    exact (by first | with_reducible rfl | rw [x26] | rfl)

/- slices.ContainsFunc[[]int,int] -/
theorem c_slices_ContainsFunc_int_int (xs : Value) (L_xs : List Int) (f : Value) (pr_f : Int → Bool) (w : World) (hv_xs : Sl RI 1 w xs L_xs) (hv_f : ∃ fi fst cap, f = .func (.func fi) fst cap ∧ (∀ args w, (callFunc fi args).run Try.prog w = .ok (.enter fi args) w) ∧ ∀ (n0 : Int) u, Ext w u → Gives Try.prog fi (fst ++ #[.int .i64 n0] ++ cap) u (fun v _ => v = .bool (pr_f n0))) : Gives Try.prog 59 #[xs, f] w (fun v w' => v = (Bo (L_xs.any pr_f))) := by
  have hlen_xs := Sl.len hv_xs; obtain ⟨p_xs, q_xs, rfl⟩ := Sl.shape hv_xs
  obtain ⟨f_f, s_f, c_f, rfl, hcal_f, hg_f⟩ := hv_f
  refine enter [(.slice p_xs L_xs.length q_xs), (.func (.func f_f) s_f c_f), Ud, Ud, Ud, Ud, Ud, Ud, Ud] Try.func59 rfl Try.ntmps59 rfl ?_
  refine wp_seq_k fun K1 hK1 => ?_
  refine wp_region_lit ?_
  refine q_is (l' := [(.slice p_xs L_xs.length q_xs), (.func (.func f_f) s_f c_f), Ud, Ud, (Bo false), Ud, Ud, Ud, Ud]) rfl rfl (does_assign (u := (Bo false)) (ev rfl)) rfl ?_
  refine wpList_nil (hK1 _ _ ?_)
  refine wp_seq_k fun K2 hK2 => ?_
  refine wp_region_lit ?_
  refine q_is (l' := [(.slice p_xs L_xs.length q_xs), (.func (.func f_f) s_f c_f), Ud, Ud, (Bo false), (.slice p_xs L_xs.length q_xs), Ud, Ud, Ud]) rfl rfl (does_move (u := (.slice p_xs L_xs.length q_xs)) (ev rfl)) rfl ?_
  refine q_is (l' := [(.slice p_xs L_xs.length q_xs), (.func (.func f_f) s_f c_f), Ud, Ud, (Bo false), (.slice p_xs L_xs.length q_xs), (.func (.func f_f) s_f c_f), Ud, Ud]) rfl rfl (does_move (u := (.func (.func f_f) s_f c_f)) (ev rfl)) rfl ?_
  refine seqd rfl rfl (does_call (args := #[(.slice p_xs L_xs.length q_xs), (.func (.func f_f) s_f c_f)]) cal88 (evs rfl) (c_slices_IndexFunc_int_int (.slice p_xs L_xs.length q_xs) L_xs (.func (.func f_f) s_f c_f) pr_f _ hv_xs ⟨_, _, _, rfl, hcal_f, fun n0 u hu'  => hg_f n0 u (Ext.gr (Ext.refl w) hu') ⟩)) ?_; rintro _ w4 ⟨E3, rfl⟩
  have X5 := Ext.gr (Ext.refl w) E3
  show wpList _ _ _ _ (fr [(.slice p_xs L_xs.length q_xs), (.func (.func f_f) s_f c_f), Ud, Ud, (Bo false), (.slice p_xs L_xs.length q_xs), (.func (.func f_f) s_f c_f), (Iv (findI pr_f L_xs)), Ud]) _
  refine q_is (l' := [(.slice p_xs L_xs.length q_xs), (.func (.func f_f) s_f c_f), Ud, Ud, (Bo false), (.slice p_xs L_xs.length q_xs), (.func (.func f_f) s_f c_f), (Iv (findI pr_f L_xs)), (Bo (icmp .geq (findI pr_f L_xs) 0))]) rfl rfl (does_icmp (p := findI pr_f L_xs) (q := 0) (.inr (.inr (.inr (.inr (.inr rfl))))) (ev rfl) (ev rfl)) rfl ?_
  refine q_is (l' := [(.slice p_xs L_xs.length q_xs), (.func (.func f_f) s_f c_f), Ud, Ud, (Bo (icmp .geq (findI pr_f L_xs) 0)), (.slice p_xs L_xs.length q_xs), (.func (.func f_f) s_f c_f), (Iv (findI pr_f L_xs)), (Bo (icmp .geq (findI pr_f L_xs) 0))]) rfl rfl (does_assign (u := (Bo (icmp .geq (findI pr_f L_xs) 0))) (ev rfl)) rfl ?_
  refine wpList_nil (hK2 _ _ ?_)
  refine wp_ret ?_
  refine ret_val (v := (Bo (icmp .geq (findI pr_f L_xs) 0))) (res_T rfl (slot rfl)) X5 ?_
  have x6 : (L_xs.any pr_f) = (icmp .geq (findI pr_f L_xs) 0) := by first | with_reducible rfl | (simp only [findI_any]; done) | (simp [findI_any]; done) | rfl
  exact (by first | with_reducible rfl | rw [x6] | rfl)

/- impl.ValidShape$1 -/
theorem c_impl_ValidShape_1 (x_ : Int) (w : World) : Gives Try.prog 60 #[(Iv x_)] w (fun v w' => v = (Bo (icmp .neq x_ 1))) := by
  refine enter [(Iv x_), Ud, Ud, Ud, Ud] Try.func60 rfl Try.ntmps60 rfl ?_
  refine wp_seq_k fun K1 hK1 => ?_
  refine wp_region_lit ?_
  refine q_is (l' := [(Iv x_), Ud, (Bo false), Ud, Ud]) rfl rfl (does_assign (u := (Bo false)) (ev rfl)) rfl ?_
  refine wpList_nil (hK1 _ _ ?_)
  refine wp_seq_k fun K2 hK2 => ?_
  refine wp_region_lit ?_
  refine q_is (l' := [(Iv x_), Ud, (Bo false), (Iv x_), Ud]) rfl rfl (does_move (u := (Iv x_)) (ev rfl)) rfl ?_
  refine q_is (l' := [(Iv x_), Ud, (Bo false), (Iv x_), (Bo (icmp .neq x_ 1))]) rfl rfl (does_icmp (p := x_) (q := 1) (.inr (.inl rfl)) (ev rfl) (ev rfl)) rfl ?_
  refine q_is (l' := [(Iv x_), Ud, (Bo (icmp .neq x_ 1)), (Iv x_), (Bo (icmp .neq x_ 1))]) rfl rfl (does_assign (u := (Bo (icmp .neq x_ 1))) (ev rfl)) rfl ?_
  refine wpList_nil (hK2 _ _ ?_)
  refine wp_ret ?_
  refine ret_val (v := (Bo (icmp .neq x_ 1))) (res_T rfl (slot rfl)) (Ext.refl w) ?_
  exact rfl

/- impl.ValidShape -/
theorem c_impl_ValidShape (s_ : List Value) (A_s_ : ShapeT) (w : World) (hv_s_ : RShapeT w A_s_ s_) : Gives Try.prog 26 #[(.agg s_.toArray)] w (fun v w' => v = (Bo (isShape A_s_))) := by
  obtain ⟨y1, rfl, h2⟩ := hv_s_
  have hs5 := h2; have hs5l := Sl.len h2; obtain ⟨p3, q4, rfl⟩ := Sl.shape h2
  refine enter [(.agg #[(.slice p3 A_s_.nodes.length q4)]), Ud, Ud, Ud, Ud, Ud, Ud, Ud, Ud, Ud, Ud, Ud, Ud, Ud, Ud, Ud, Ud, Ud, Ud, Ud, Ud, Ud, Ud, Ud, Ud, Ud, Ud, Ud, Ud, Ud, Ud, Ud, Ud, Ud, Ud, Ud, Ud, Ud, Ud, Ud, Ud, Ud, Ud, Ud, Ud, Ud, Ud, Ud, Ud, Ud, Ud, Ud, Ud, Ud, Ud, Ud, Ud, Ud, Ud, Ud, Ud, Ud, Ud, Ud, Ud, Ud, Ud, Ud, Ud, Ud, Ud, Ud, Ud, Ud, Ud, Ud, Ud, Ud] Try.func26 rfl Try.ntmps26 rfl ?_
  refine wp_seq_k fun K6 hK6 => ?_
  refine wp_region_lit ?_
  refine seqd rfl rfl (does_box (u := (.agg #[(.slice p3 A_s_.nodes.length q4)])) (ev rfl)) ?_; rintro _ w11 ⟨b7, rfl, hb8, hB9, E10⟩
  have g12 : w.heap.size ≤ b7 := Nat.le_trans (Below.size (Ext.refl w)) hb8
  change Blk _ _ [(.slice p3 A_s_.nodes.length q4)] at hB9
  have X13 := Ext.gr (Ext.refl w) E10
  show wpList _ _ _ _ (fr [_, _, _, _, _, _, _, _, _, _, _, _, _, _, _, _, _, _, _, _, _, _, _, _, _, _, _, _, _, _, _, _, _, _, _, _, _, _, _, _, _, _, _, _, _, _, _, _, _, _, _, _, _, _, _, _, _, _, _, _, _, _, _, _, _, _, _, _, _, _, _, _, _, _, _, _, _, _]) _
  refine q_is rfl rfl (does_assign (u := (Bo false)) (ev rfl)) (by dsimp only [List.set]; try rfl) ?_
  refine wpList_nil (hK6 _ _ ?_)
  refine wp_seq_k fun K14 hK14 => ?_
  refine wp_seq_k fun K15 hK15 => ?_
  refine wp_region_lit ?_
  refine q_is rfl rfl (does_fieldAddr (ev rfl) fa30_0) (by dsimp only [List.set]; try rfl) ?_
  refine q_is rfl rfl (does_load (u := (.slice p3 A_s_.nodes.length q4)) (ev rfl) Try.isAgg28 (Cells.at (Blk.cells hB9) 0 rfl)) (by dsimp only [List.set]; try rfl) ?_
  refine q_is rfl rfl (does_len_slice Try.underlying28 (ev rfl)) (by dsimp only [List.set]; try rfl) ?_
  refine seqd rfl rfl (does_call (args := #[(Iv (A_s_.nodes.length : Int)), (Iv 1), (Iv 16)]) cal55 (evs rfl) (c_impl_in (A_s_.nodes.length : Int) 1 16 _)) ?_; rintro _ w17 ⟨E16, rfl⟩
  have X18 := Ext.gr X13 E16
  show wpList _ _ _ _ (fr [_, _, _, _, _, _, _, _, _, _, _, _, _, _, _, _, _, _, _, _, _, _, _, _, _, _, _, _, _, _, _, _, _, _, _, _, _, _, _, _, _, _, _, _, _, _, _, _, _, _, _, _, _, _, _, _, _, _, _, _, _, _, _, _, _, _, _, _, _, _, _, _, _, _, _, _, _, _]) _
  refine q_is rfl rfl (does_not (ev rfl)) (by dsimp only [List.set]; try rfl) ?_
  refine wpList_nil (hK15 _ _ ?_)
  refine wp_cond_split (t := !(inI (A_s_.nodes.length : Int) 1 16)) (ev rfl) (fun c19 => ?_) (fun c19 => ?_)
  · rw [Bool.not_eq_true'] at c19
    have c19' := c19
    have hnb : inI (A_s_.nodes.length : Int) 1 16 = false := by assumption
    refine wp_seq_k fun K20 hK20 => ?_
    refine wp_region_lit ?_
    refine q_is rfl rfl (does_assign (u := (Bo false)) (ev rfl)) (by dsimp only [List.set]; try rfl) ?_
    refine wpList_nil (hK20 _ _ ?_)
    refine wp_ret ?_
    dsimp only [Exit.then, Exit.inBlock]
    refine ret_val (v := (Bo false)) (res_T rfl (slot rfl)) X18 ?_
    have x21 : (isShape A_s_) = false := by first | exact isShape_bad hel1 hbd | exact isShape_len (fun hh => by rw [inI_iff.2 hh] at hnb; cases hnb) | exact isShape_last hb hok (by omega) hk (by assumption) | (simp only [c19]; exact isShape_last hb hok (by omega) hk (by assumption))
    exact (by first | with_reducible rfl | rw [x21] | rfl)
  rw [Bool.not_eq_false'] at c19
  have c19' := c19
  have hb := inI_iff.1 (by assumption : inI (A_s_.nodes.length : Int) 1 16 = true)
  refine wp_skip (hK14 _ _ ?_)
  refine wp_seq_k fun K22 hK22 => ?_
  refine wp_region_lit ?_
  refine q_is rfl rfl (does_fieldAddr (ev rfl) fa30_0) (by dsimp only [List.set]; try rfl) ?_
  refine q_is rfl rfl (does_load (u := (.slice p3 A_s_.nodes.length q4)) (ev rfl) Try.isAgg28 (Cells.at (Blk.cells (hB9.ext E16)) 0 rfl)) (by dsimp only [List.set]; try rfl) ?_
  refine q_is rfl rfl (does_len_slice Try.underlying28 (ev rfl)) (by dsimp only [List.set]; try rfl) ?_
  refine seqd rfl rfl (does_makeSlice (n := A_s_.nodes.length) Try.underlying108 inf3 (ev rfl) (ev rfl) (by omega)) ?_; rintro _ w27 ⟨b23, rfl, hb24, ⟨cs28, hB25, hl29, hz30⟩, E26⟩
  have n31 : b7 < b23 := Nat.lt_of_lt_of_le (Blk.lt (hB9.ext E16)) hb24
  have g32 : w.heap.size ≤ b23 := Nat.le_trans (Below.size X18) hb24
  have X33 := Ext.gr X18 E26
  have hR34 : RowG RI 1 w27 b23 (List.replicate A_s_.nodes.length (0 : Int)) := RowG.made (z := (.int .i64 0)) hB25 rfl rfl hz30 rfl
  show wpList _ _ _ _ (fr [_, _, _, _, _, _, _, _, _, _, _, _, _, _, _, _, _, _, _, _, _, _, _, _, _, _, _, _, _, _, _, _, _, _, _, _, _, _, _, _, _, _, _, _, _, _, _, _, _, _, _, _, _, _, _, _, _, _, _, _, _, _, _, _, _, _, _, _, _, _, _, _, _, _, _, _, _, _]) _
  refine q_is rfl rfl (does_assign (u := (.slice (some ⟨b23, 0, none⟩) A_s_.nodes.length A_s_.nodes.length)) (ev rfl)) (by dsimp only [List.set]; try rfl) ?_
  refine wpList_nil (hK22 _ _ ?_)
  refine wp_seq_k fun K35 hK35 => ?_
  refine wp_seq_k fun K36 hK36 => ?_
  refine wp_region_lit ?_
  refine q_is rfl rfl (does_fieldAddr (ev rfl) fa30_0) (by dsimp only [List.set]; try rfl) ?_
  refine q_is rfl rfl (does_load (u := (.slice p3 A_s_.nodes.length q4)) (ev rfl) Try.isAgg28 (Cells.at (Blk.cells ((hB9.ext E16).ext E26)) 0 rfl)) (by dsimp only [List.set]; try rfl) ?_
  refine q_is rfl rfl (does_len_slice Try.underlying28 (ev rfl)) (by dsimp only [List.set]; try rfl) ?_
  refine q_is rfl rfl (does_move (u := (Iv 0)) (ev rfl)) (by dsimp only [List.set]; try rfl) ?_
  refine wpList_nil (hK36 _ _ ?_)
  refine wp_block ?_
  refine loop_ghost (σ := Nat) (fun k a w' => ∃ u37 : Nat → Value, a = fr [(.agg #[(.slice p3 A_s_.nodes.length q4)]), (Pt b7 0), (u37 2), (.slice (some ⟨b23, 0, none⟩) A_s_.nodes.length A_s_.nodes.length), (u37 4), (u37 5), Ud, (u37 7), Ud, (Pt b7 0), (.slice p3 A_s_.nodes.length q4), (Iv (A_s_.nodes.length : Int)), (Bo (inI (A_s_.nodes.length : Int) 1 16)), (Bo (!(inI (A_s_.nodes.length : Int) 1 16))), (Pt b7 0), (.slice p3 A_s_.nodes.length q4), (Iv (A_s_.nodes.length : Int)), (.slice (some ⟨b23, 0, none⟩) A_s_.nodes.length A_s_.nodes.length), (Pt b7 0), (.slice p3 A_s_.nodes.length q4), (Iv (A_s_.nodes.length : Int)), (Iv (k : Int)), (u37 22), (u37 23), (u37 24), (u37 25), (u37 26), (u37 27), (u37 28), (u37 29), (u37 30), (u37 31), (u37 32), (u37 33), (u37 34), (u37 35), (u37 36), (u37 37), (u37 38), (u37 39), (u37 40), (u37 41), (u37 42), (u37 43), (u37 44), (u37 45), (u37 46), (u37 47), (u37 48), (u37 49), (u37 50), (u37 51), (u37 52), (u37 53), (u37 54), (u37 55), (u37 56), (u37 57), (u37 58), (u37 59), (u37 60), (u37 61), (u37 62), Ud, Ud, Ud, Ud, Ud, Ud, Ud, Ud, Ud, Ud, Ud, Ud, Ud, Ud, Ud] ∧ KpL [b23] w27 w' ∧ RowG RI 1 w' b23 (useTo A_s_.nodes k) ∧ (k ≤ A_s_.nodes.length ∧ OkTo A_s_.nodes k)) (fun k => A_s_.nodes.length - k) 0 ?_ ?_
  · refine ⟨fun t => (([(.agg #[(.slice p3 A_s_.nodes.length q4)]), (Pt b7 0), (Bo false), (.slice (some ⟨b23, 0, none⟩) A_s_.nodes.length A_s_.nodes.length), Ud, Ud, Ud, Ud, Ud, (Pt b7 0), (.slice p3 A_s_.nodes.length q4), (Iv (A_s_.nodes.length : Int)), (Bo (inI (A_s_.nodes.length : Int) 1 16)), (Bo (!(inI (A_s_.nodes.length : Int) 1 16))), (Pt b7 0), (.slice p3 A_s_.nodes.length q4), (Iv (A_s_.nodes.length : Int)), (.slice (some ⟨b23, 0, none⟩) A_s_.nodes.length A_s_.nodes.length), (Pt b7 0), (.slice p3 A_s_.nodes.length q4), (Iv (A_s_.nodes.length : Int)), (Iv 0), Ud, Ud, Ud, Ud, Ud, Ud, Ud, Ud, Ud, Ud, Ud, Ud, Ud, Ud, Ud, Ud, Ud, Ud, Ud, Ud, Ud, Ud, Ud, Ud, Ud, Ud, Ud, Ud, Ud, Ud, Ud, Ud, Ud, Ud, Ud, Ud, Ud, Ud, Ud, Ud, Ud, Ud, Ud, Ud, Ud, Ud, Ud, Ud, Ud, Ud, Ud, Ud, Ud, Ud, Ud, Ud] : List Value)[t]?).getD undef, rfl, KpL.refl _ _, (RowG.cast hR34 (by (try dsimp only); rfl)), ?_⟩
    exact ⟨Nat.zero_le _, OkTo.zero⟩
  · rintro k a w38 ⟨u37, rfl, E39, hRg0, ⟨hk, hok⟩⟩
    have X41 := Below.kl X33 E39 (allS g32 all0) (Nat.le_refl _)
    have hR42 := hRg0; clear hRg0
    refine wp_seq_k fun K43 hK43 => ?_
    refine wp_region_lit ?_
    refine q_is rfl rfl (does_icmp (p := (k : Int)) (q := (A_s_.nodes.length : Int)) (.inr (.inr (.inl rfl))) (ev rfl) (ev rfl)) (by dsimp only [List.set]; try rfl) ?_
    refine wpList_nil (hK43 _ _ ?_)
    refine wp_seq_k fun K44 hK44 => ?_
    refine wp_cond_split (t := icmp .lss (k : Int) (A_s_.nodes.length : Int)) (ev rfl) (fun c45 => ?_) (fun c45 => ?_)
    · have c45' := c45
      (try simp only [icmp, Bool.and_eq_true, Bool.or_eq_true, Bool.and_eq_false_iff, Bool.or_eq_false_iff, Bool.not_eq_true', Bool.not_eq_false', decide_eq_true_eq, decide_eq_false_iff_not, beq_iff_eq, bne_iff_ne, beq_eq_false_iff_ne, bne_eq_false_iff_eq] at c45')
      refine wp_skip (hK44 _ _ ?_)
      refine wp_seq_k fun K46 hK46 => ?_
      refine wp_block ?_
      refine wp_seq_k fun K47 hK47 => ?_
      refine wp_region_lit ?_
      refine q_is rfl rfl (does_move (u := (Iv (k : Int))) (ev rfl)) (by dsimp only [List.set]; try rfl) ?_
      refine q_is rfl rfl (does_assign (u := (Iv (k : Int))) (ev rfl)) (by dsimp only [List.set]; try rfl) ?_
      refine wpList_nil (hK47 _ _ ?_)
      refine wp_seq_k fun K48 hK48 => ?_
      refine wp_region_lit ?_
      refine q_is rfl rfl (does_fieldAddr (ev rfl) fa30_0) (by dsimp only [List.set]; try rfl) ?_
      refine q_is rfl rfl (does_load (u := (.slice p3 A_s_.nodes.length q4)) (ev rfl) Try.isAgg28 (Cells.at (Blk.cells (((hB9.ext E16).ext E26).kl E39 (ninS (Nat.ne_of_lt n31) nin0))) 0 rfl)) (by dsimp only [List.set]; try rfl) ?_
      refine q_is rfl rfl (does_move (u := (Iv (k : Int))) (ev rfl)) (by dsimp only [List.set]; try rfl) ?_
      obtain ⟨el1, hel1⟩ : ∃ e, A_s_.nodes[k]? = some e := ⟨_, List.getElem?_eq_getElem (by omega)⟩
      refine seqd rfl rfl (does_indexSl0 (R := RNodeT) (i := (k : Int)) (xs := A_s_.nodes) (e := el1) Try.underlying28 Try.sizeOf102 (ev rfl) (ev rfl) hs5 (by omega) hel1) ?_; rintro _ w38 ⟨b49, o50, _, rfl, hc52, ⟨y53, rfl, h54⟩, rfl⟩
      have hs57 := h54; have hs57l := Sl.len h54; obtain ⟨p55, q56, rfl⟩ := Sl.shape h54
      show wpList _ _ _ _ (fr [_, _, _, _, _, _, _, _, _, _, _, _, _, _, _, _, _, _, _, _, _, _, _, _, _, _, _, _, _, _, _, _, _, _, _, _, _, _, _, _, _, _, _, _, _, _, _, _, _, _, _, _, _, _, _, _, _, _, _, _, _, _, _, _, _, _, _, _, _, _, _, _, _, _, _, _, _, _]) _
      refine q_is rfl rfl (does_assign (u := (Pt b49 o50)) (ev rfl)) (by dsimp only [List.set]; try rfl) ?_
      refine wpList_nil (hK48 _ _ ?_)
      refine wp_seq_k fun K58 hK58 => ?_
      refine wp_seq_k fun K59 hK59 => ?_
      obtain ⟨β1, hβ1⟩ : ∃ b : Bool, b = (rlOk el1.kind && nodeNums el1.kind el1.nums) := ⟨_, rfl⟩
      refine region_draw (
        [Fact.pure [] (fun v => v = (Pt b49 o50)),
    Fact.pure [28] (fun v => v = (Pt b49 o50)),
    Fact.pure [29] (fun v => v = (Pt b49 o50)),
    Fact.pure [30] (fun v => v = (Iv el1.kind)),
    Fact.pure [] (fun v => v = (Pt b49 o50)),
    Fact.pure [32] (fun v => v = (Pt b49 o50)),
    Fact.pure [33] (fun v => v = (Pt b49 (o50 + 3))),
    Fact.pure [34] (fun v => v = (.slice p55 el1.nums.length q56)),
    Fact.pure [31, 35] (fun v => v = (Bo β1)),
    Fact.pure [36] (fun v => v = (Bo (!β1))),
    Fact.pure [37] (fun v => v = (Bo (!β1))),
    Fact.pure [38] (fun v => (!β1) = false → v = (Pt b49 o50)),
    Fact.pure [39, 38] (fun v => (!β1) = false → v = (Bo (axOk el1))),
    Fact.pure [40, 38] (fun v => (!β1) = false → v = (Bo (!(axOk el1)))),
    Fact.pure [38, 41] (fun v => v = (Bo ((!β1) || (!(axOk el1)))))]) mixed (by kernel_rfl) (by intro _ _ d _ _ h; cases d <;> exact h) ?_
      obtain ⟨w60, hw62⟩ : ∃ w', w' = World.drew w38 := ⟨_, rfl⟩; rw [← hw62]; have E61 : Ext w38 w60 := by rw [hw62]; exact Ext.draw _
      clear hw62
      have X63 := Ext.gr X41 E61
      refine RW_d _ rfl (fun v => by dsimp only [List.set]; try rfl) (fun u hu hF => ?_) (fun v64 => ?_)
      · clear hF
        refine doesG_un rfl ?_
        refine (does_move (u := (Pt b49 o50)) (ev rfl)).mono ?_; rintro _ _ ⟨rfl, rfl⟩
        exact ⟨rfl, Ext.refl _⟩
      refine RW_d _ rfl (fun v => by dsimp only [List.set]; try rfl) (fun u hu hF => ?_) (fun v65 => ?_)
      · have h28_ : v64 = (Pt b49 o50) := hF.1
        clear hF
        refine doesG_un rfl ?_
        obtain rfl := h28_
        refine (does_nilCheck (ev rfl)).mono ?_; rintro _ _ ⟨rfl, rfl⟩
        exact ⟨rfl, Ext.refl _⟩
      refine RW_d _ rfl (fun v => by dsimp only [List.set]; try rfl) (fun u hu hF => ?_) (fun v66 => ?_)
      · have h29_ : v65 = (Pt b49 o50) := hF.1
        clear hF
        refine doesG_un rfl ?_
        obtain rfl := h29_
        refine (does_fieldAddr (ev rfl) fa102_0).mono ?_; rintro _ _ ⟨rfl, rfl⟩
        exact ⟨rfl, Ext.refl _⟩
      refine RW_d _ rfl (fun v => by dsimp only [List.set]; try rfl) (fun u hu hF => ?_) (fun v67 => ?_)
      · have h30_ : v66 = (Pt b49 o50) := hF.1
        clear hF
        refine doesG_un rfl ?_
        obtain rfl := h30_
        refine (does_load (u := (Iv el1.kind)) (ev rfl) Try.isAgg2 (Cells.at ((hc52.ext (Ext.gr X41 E61)).ext hu) 0 rfl)).mono ?_; rintro _ _ ⟨rfl, rfl⟩
        exact ⟨rfl, Ext.refl _⟩
      refine RW_d _ rfl (fun v => by dsimp only [List.set]; try rfl) (fun u hu hF => ?_) (fun v68 => ?_)
      · clear hF
        refine doesG_un rfl ?_
        refine (does_move (u := (Pt b49 o50)) (ev rfl)).mono ?_; rintro _ _ ⟨rfl, rfl⟩
        exact ⟨rfl, Ext.refl _⟩
      refine RW_d _ rfl (fun v => by dsimp only [List.set]; try rfl) (fun u hu hF => ?_) (fun v69 => ?_)
      · have h32_ : v68 = (Pt b49 o50) := hF.1
        clear hF
        refine doesG_un rfl ?_
        obtain rfl := h32_
        refine (does_nilCheck (ev rfl)).mono ?_; rintro _ _ ⟨rfl, rfl⟩
        exact ⟨rfl, Ext.refl _⟩
      refine RW_d _ rfl (fun v => by dsimp only [List.set]; try rfl) (fun u hu hF => ?_) (fun v70 => ?_)
      · have h33_ : v69 = (Pt b49 o50) := hF.1
        clear hF
        refine doesG_un rfl ?_
        obtain rfl := h33_
        refine (does_fieldAddr (ev rfl) fa102_3).mono ?_; rintro _ _ ⟨rfl, rfl⟩
        exact ⟨rfl, Ext.refl _⟩
      refine RW_d _ rfl (fun v => by dsimp only [List.set]; try rfl) (fun u hu hF => ?_) (fun v71 => ?_)
      · have h34_ : v70 = (Pt b49 (o50 + 3)) := hF.1
        clear hF
        refine doesG_un rfl ?_
        obtain rfl := h34_
        refine (does_load (u := (.slice p55 el1.nums.length q56)) (ev rfl) Try.isAgg97 (Cells.at ((hc52.ext (Ext.gr X41 E61)).ext hu) 3 rfl)).mono ?_; rintro _ _ ⟨rfl, rfl⟩
        exact ⟨rfl, Ext.refl _⟩
      refine RW_d _ rfl (fun v => by dsimp only [List.set]; try rfl) (fun u hu hF => ?_) (fun v72 => ?_)
      · have h31_ : v67 = (Iv el1.kind) := hF.1
        have h35_ : v71 = (.slice p55 el1.nums.length q56) := hF.2.1
        clear hF
        refine doesG_un rfl ?_
        obtain rfl := h31_
        obtain rfl := h35_
        refine (does_call (args := #[(Iv el1.kind), (.slice p55 el1.nums.length q56)]) cal56 (evs rfl) (c_impl_numbersOk el1.kind (.slice p55 el1.nums.length q56) el1.nums _ (Sl.ext (Sl.ext hs57 RF.mono (Ext.gr X41 E61)) RF.mono hu))).mono ?_; rintro v u' ⟨hx, hv⟩
        exact ⟨hv.trans (by simp only [hβ1]), hx⟩
      refine RW_d _ rfl (fun v => by dsimp only [List.set]; try rfl) (fun u hu hF => ?_) (fun v73 => ?_)
      · have h36_ : v72 = (Bo β1) := hF.1
        clear hF
        refine doesG_un rfl ?_
        obtain rfl := h36_
        refine (does_not (ev rfl)).mono ?_; rintro _ _ ⟨rfl, rfl⟩
        exact ⟨rfl, Ext.refl _⟩
      refine RW_d _ rfl (fun v => by dsimp only [List.set]; try rfl) (fun u hu hF => ?_) (fun v74 => ?_)
      · have h37_ : v73 = (Bo (!β1)) := hF.1
        clear hF
        refine doesG_un rfl ?_
        obtain rfl := h37_
        refine (does_move (u := (Bo (!β1))) (ev rfl)).mono ?_; rintro _ _ ⟨rfl, rfl⟩
        exact ⟨rfl, Ext.refl _⟩
      refine RW_d _ rfl (fun v => by dsimp only [List.set]; try rfl) (fun u hu hF => ?_) (fun v75 => ?_)
      · have h38_ : v74 = (Bo (!β1)) := hF.1
        clear hF
        obtain rfl := h38_
        refine doesG_g (b := (!β1)) rfl (yld rfl rfl) (fun hg1 => ?_) (fun hc => ⟨fun hg1 => absurd hg1 hc, Ext.refl _⟩)
        refine (does_move (u := (Pt b49 o50)) (ev rfl)).mono ?_; rintro _ _ ⟨rfl, rfl⟩
        exact ⟨fun _ => rfl, Ext.refl _⟩
      refine RW_d _ rfl (fun v => by dsimp only [List.set]; try rfl) (fun u hu hF => ?_) (fun v76 => ?_)
      · have h39_ : (!β1) = false → v75 = (Pt b49 o50) := hF.1
        have h38_ : v74 = (Bo (!β1)) := hF.2.1
        clear hF
        obtain rfl := h38_
        refine doesG_g (b := (!β1)) rfl (yld rfl rfl) (fun hg1 => ?_) (fun hc => ⟨fun hg1 => absurd hg1 hc, Ext.refl _⟩)
        obtain rfl := h39_ hg1
        refine (does_call (args := #[(Pt b49 o50)]) cal57 (evs rfl) (c_impl_axisOk b49 o50 [(Iv el1.kind), (Iv el1.a), (Iv el1.b), (.slice p55 el1.nums.length q56)] el1 _ ((hc52.ext (Ext.gr X41 E61)).ext hu) ⟨(.slice p55 el1.nums.length q56), rfl, (Sl.ext (Sl.ext hs57 RF.mono (Ext.gr X41 E61)) RF.mono hu)⟩)).mono ?_; rintro v u' ⟨hx, hv⟩
        exact ⟨fun _ => hv, hx⟩
      refine RW_d _ rfl (fun v => by dsimp only [List.set]; try rfl) (fun u hu hF => ?_) (fun v77 => ?_)
      · have h40_ : (!β1) = false → v76 = (Bo (axOk el1)) := hF.1
        have h38_ : v74 = (Bo (!β1)) := hF.2.1
        clear hF
        obtain rfl := h38_
        refine doesG_g (b := (!β1)) rfl (yld rfl rfl) (fun hg1 => ?_) (fun hc => ⟨fun hg1 => absurd hg1 hc, Ext.refl _⟩)
        obtain rfl := h40_ hg1
        refine (does_not (ev rfl)).mono ?_; rintro _ _ ⟨rfl, rfl⟩
        exact ⟨fun _ => rfl, Ext.refl _⟩
      refine RW_d _ rfl (fun v => by dsimp only [List.set]; try rfl) (fun u hu hF => ?_) (fun v78 => ?_)
      · have h38_ : v74 = (Bo (!β1)) := hF.1
        have h41_ : (!β1) = false → v77 = (Bo (!(axOk el1))) := hF.2.1
        clear hF
        refine doesG_un rfl ?_
        skip
        obtain rfl := h38_
        refine (does_pick (b := (!β1)) (u := (Bo true)) (v := v77) (ev rfl) (ev rfl) (ev rfl)).mono ?_; rintro _ _ ⟨rfl, rfl⟩; refine ⟨?_, Ext.refl _⟩; skip
        cases hbb : (!β1)
        all_goals first | (show _ = _; simp only [↓reduceIte, Bool.true_and, Bool.false_and, Bool.true_or, Bool.false_or, Bool.false_eq_true]; done) | (have e_ := h41_ hbb; subst e_; show _ = _; simp only [↓reduceIte, Bool.true_and, Bool.false_and, Bool.true_or, Bool.false_or, Bool.false_eq_true]; done) | rfl | (have e_ := h41_ hbb; subst e_; rfl) | (simp [hbb] at h41_ ⊢; first | done | rfl | (subst h41_; rfl) | simp_all) | (simp [hbb] at h41_ ⊢; done)
      refine RW_fin ?_; intro w79 E80 hP81
      obtain ⟨⟨⟨⟨⟨⟨⟨⟨⟨⟨⟨⟨⟨⟨⟨-, -⟩, -⟩, -⟩, -⟩, -⟩, -⟩, -⟩, -⟩, -⟩, -⟩, -⟩, -⟩, -⟩, -⟩, q82⟩ := hP81
      have X83 := Ext.gr X63 E80
      have q82 : v78 = (Bo ((!β1) || (!(axOk el1)))) := q82
      obtain rfl := q82
      show wpList _ _ _ _ (fr [_, _, _, _, _, _, _, _, _, _, _, _, _, _, _, _, _, _, _, _, _, _, _, _, _, _, _, _, _, _, _, _, _, _, _, _, _, _, _, _, _, _, _, _, _, _, _, _, _, _, _, _, _, _, _, _, _, _, _, _, _, _, _, _, _, _, _, _, _, _, _, _, _, _, _, _, _, _]) _
      refine wpList_nil (hK59 _ _ ?_)
      refine wp_cond_split (t := (!β1) || (!(axOk el1))) (ev rfl) (fun c84 => ?_) (fun c84 => ?_)
      · have c84' := c84
        (try simp only [hβ1] at c84')
        (try simp only [icmp, Bool.and_eq_true, Bool.or_eq_true, Bool.and_eq_false_iff, Bool.or_eq_false_iff, Bool.not_eq_true', Bool.not_eq_false', decide_eq_true_eq, decide_eq_false_iff_not, beq_iff_eq, bne_iff_ne, beq_eq_false_iff_ne, bne_eq_false_iff_eq] at c84')
        have hbd : nodeIn el1 k = false := nodeI_bad (by first | exact c84' | simpa only [or_assoc] using c84')
        refine wp_seq_k fun K85 hK85 => ?_
        refine wp_region_lit ?_
        refine q_is rfl rfl (does_assign (u := (Bo false)) (ev rfl)) (by dsimp only [List.set]; try rfl) ?_
        refine wpList_nil (hK85 _ _ ?_)
        refine wp_ret ?_
        dsimp only [Exit.then, Exit.inBlock]
        refine ret_val (v := (Bo false)) (res_T rfl (slot rfl)) X83 ?_
        try simp only [hel1, hβ1] at c19 c45 c84
        have x86 : (isShape A_s_) = false := by first | exact isShape_bad hel1 hbd | exact isShape_len (fun hh => by rw [inI_iff.2 hh] at hnb; cases hnb) | exact isShape_last hb hok (by omega) hk (by assumption) | (simp only [hel1, hβ1, c19, c45, c84]; exact isShape_last hb hok (by omega) hk (by assumption))
        exact (by first | with_reducible rfl | rw [x86] | rfl)
      have c84' := c84
      (try simp only [hβ1] at c84')
      (try simp only [icmp, Bool.and_eq_true, Bool.or_eq_true, Bool.and_eq_false_iff, Bool.or_eq_false_iff, Bool.not_eq_true', Bool.not_eq_false', decide_eq_true_eq, decide_eq_false_iff_not, beq_iff_eq, bne_iff_ne, beq_eq_false_iff_ne, bne_eq_false_iff_eq] at c84')
      have hno : rlOk el1.kind = true ∧ nodeNums el1.kind el1.nums = true ∧ axOk el1 = true := by first | exact c84' | simpa only [and_assoc] using c84'
      have hcl := chL_len el1
      refine wp_skip (hK58 _ _ ?_)
      refine wp_seq_k fun K87 hK87 => ?_
      refine wp_region_lit ?_
      refine q_is rfl rfl (does_move (u := (Pt b49 o50)) (ev rfl)) (by dsimp only [List.set]; try rfl) ?_
      refine seqd rfl rfl (does_call (args := #[(Pt b49 o50)]) cal58 (evs rfl) (c_impl_childrenOf b49 o50 [(Iv el1.kind), (Iv el1.a), (Iv el1.b), (.slice p55 el1.nums.length q56)] el1 _ (hc52.ext X83) ⟨(.slice p55 el1.nums.length q56), rfl, (Sl.ext hs57 RF.mono X83)⟩)) ?_; rintro _ w89 ⟨E88, ⟨y91, rfl, hh90⟩⟩
      have X92 := Ext.gr X83 E88
      have n93 : b7 < w79.heap.size := Blk.lt (((((hB9.ext E16).ext E26).kl E39 (ninS (Nat.ne_of_lt n31) nin0)).ext E61).ext E80)
      have n94 : b23 < w79.heap.size := RowG.lt (RowG.ext (RowG.ext hR42 RI.flat E61) RI.flat E80)
      obtain ⟨p95, q96, rfl⟩ := Sl.shape hh90.get
      show wpList _ _ _ _ (fr [_, _, _, _, _, _, _, _, _, _, _, _, _, _, _, _, _, _, _, _, _, _, _, _, _, _, _, _, _, _, _, _, _, _, _, _, _, _, _, _, _, _, _, _, _, _, _, _, _, _, _, _, _, _, _, _, _, _, _, _, _, _, _, _, _, _, _, _, _, _, _, _, _, _, _, _, _, _]) _
      refine q_is rfl rfl (does_len_slice Try.underlying100 (ev rfl)) (by dsimp only [List.set]; try rfl) ?_
      refine q_is rfl rfl (does_move (u := (Iv 0)) (ev rfl)) (by dsimp only [List.set]; try rfl) ?_
      refine wpList_nil (hK87 _ _ ?_)
      refine wp_block ?_
      refine loop_ghost (σ := Nat) (fun m a w' => ∃ u97 : Nat → Value, a = fr [(.agg #[(.slice p3 A_s_.nodes.length q4)]), (Pt b7 0), (u97 2), (.slice (some ⟨b23, 0, none⟩) A_s_.nodes.length A_s_.nodes.length), (Iv (k : Int)), (Pt b49 o50), Ud, (u97 7), Ud, (Pt b7 0), (.slice p3 A_s_.nodes.length q4), (Iv (A_s_.nodes.length : Int)), (Bo (inI (A_s_.nodes.length : Int) 1 16)), (Bo (!(inI (A_s_.nodes.length : Int) 1 16))), (Pt b7 0), (.slice p3 A_s_.nodes.length q4), (Iv (A_s_.nodes.length : Int)), (.slice (some ⟨b23, 0, none⟩) A_s_.nodes.length A_s_.nodes.length), (Pt b7 0), (.slice p3 A_s_.nodes.length q4), (Iv (A_s_.nodes.length : Int)), (Iv (k : Int)), (Bo (icmp .lss (k : Int) (A_s_.nodes.length : Int))), (Iv (k : Int)), (Pt b7 0), (.slice p3 A_s_.nodes.length q4), (Iv (k : Int)), (Pt b49 o50), v64, v65, v66, v67, v68, v69, v70, v71, v72, v73, v74, v75, v76, v77, (Bo ((!β1) || (!(axOk el1)))), (Pt b49 o50), (.slice p95 ((chL el1).length) q96), (Iv (((chL el1).length) : Int)), (Iv (m : Int)), (u97 47), (u97 48), (u97 49), (u97 50), (u97 51), (u97 52), (u97 53), (u97 54), (u97 55), (u97 56), (u97 57), (u97 58), (u97 59), (u97 60), (u97 61), (u37 62), Ud, Ud, Ud, Ud, Ud, Ud, Ud, Ud, Ud, Ud, Ud, Ud, Ud, Ud, Ud] ∧ KpL [b23] w89 w' ∧ RowG RI 1 w' b23 (((chL el1).take m).foldl incL (useTo A_s_.nodes k)) ∧ (m ≤ (chL el1).length ∧ AllTo (fun c => inI c 0 ((k : Int) - 1)) (chL el1) m)) (fun m => (chL el1).length - m) 0 ?_ ?_
      · refine ⟨fun t => (([(.agg #[(.slice p3 A_s_.nodes.length q4)]), (Pt b7 0), (u37 2), (.slice (some ⟨b23, 0, none⟩) A_s_.nodes.length A_s_.nodes.length), (Iv (k : Int)), (Pt b49 o50), Ud, (u37 7), Ud, (Pt b7 0), (.slice p3 A_s_.nodes.length q4), (Iv (A_s_.nodes.length : Int)), (Bo (inI (A_s_.nodes.length : Int) 1 16)), (Bo (!(inI (A_s_.nodes.length : Int) 1 16))), (Pt b7 0), (.slice p3 A_s_.nodes.length q4), (Iv (A_s_.nodes.length : Int)), (.slice (some ⟨b23, 0, none⟩) A_s_.nodes.length A_s_.nodes.length), (Pt b7 0), (.slice p3 A_s_.nodes.length q4), (Iv (A_s_.nodes.length : Int)), (Iv (k : Int)), (Bo (icmp .lss (k : Int) (A_s_.nodes.length : Int))), (Iv (k : Int)), (Pt b7 0), (.slice p3 A_s_.nodes.length q4), (Iv (k : Int)), (Pt b49 o50), v64, v65, v66, v67, v68, v69, v70, v71, v72, v73, v74, v75, v76, v77, (Bo ((!β1) || (!(axOk el1)))), (Pt b49 o50), (.slice p95 ((chL el1).length) q96), (Iv (((chL el1).length) : Int)), (Iv 0), (u37 47), (u37 48), (u37 49), (u37 50), (u37 51), (u37 52), (u37 53), (u37 54), (u37 55), (u37 56), (u37 57), (u37 58), (u37 59), (u37 60), (u37 61), (u37 62), Ud, Ud, Ud, Ud, Ud, Ud, Ud, Ud, Ud, Ud, Ud, Ud, Ud, Ud, Ud] : List Value)[t]?).getD undef, rfl, KpL.refl _ _, (RowG.cast (RowG.ext (RowG.ext (RowG.ext hR42 RI.flat E61) RI.flat E80) RI.flat E88) (by (try dsimp only); rfl)), ?_⟩
        exact ⟨Nat.zero_le _, AllTo.zero⟩
      · rintro m a w98 ⟨u97, rfl, E99, hRg0, ⟨hm, hal⟩⟩
        have X101 := Below.kl X92 E99 (allS g32 all0) (Nat.le_refl _)
        have hR102 := hRg0; clear hRg0
        refine wp_seq_k fun K103 hK103 => ?_
        refine wp_region_lit ?_
        refine q_is rfl rfl (does_icmp (p := (m : Int)) (q := (((chL el1).length) : Int)) (.inr (.inr (.inl rfl))) (ev rfl) (ev rfl)) (by dsimp only [List.set]; try rfl) ?_
        refine wpList_nil (hK103 _ _ ?_)
        refine wp_seq_k fun K104 hK104 => ?_
        refine wp_cond_split (t := icmp .lss (m : Int) (((chL el1).length) : Int)) (ev rfl) (fun c105 => ?_) (fun c105 => ?_)
        · have c105' := c105
          (try simp only [hβ1] at c105')
          (try simp only [icmp, Bool.and_eq_true, Bool.or_eq_true, Bool.and_eq_false_iff, Bool.or_eq_false_iff, Bool.not_eq_true', Bool.not_eq_false', decide_eq_true_eq, decide_eq_false_iff_not, beq_iff_eq, bne_iff_ne, beq_eq_false_iff_ne, bne_eq_false_iff_eq] at c105')
          refine wp_skip (hK104 _ _ ?_)
          refine wp_seq_k fun K106 hK106 => ?_
          refine wp_block ?_
          refine wp_seq_k fun K107 hK107 => ?_
          refine wp_region_lit ?_
          obtain ⟨el2, hel2⟩ : ∃ e, (chL el1)[m]? = some e := ⟨_, List.getElem?_eq_getElem (by omega)⟩
          refine seqd rfl rfl (does_indexSl (R := RI) (i := (m : Int)) (xs := (chL el1)) (e := el2) Try.underlying100 Try.sizeOf2 (ev rfl) (ev rfl) (hh90 _ ((Same.refl _ _).kl E99 (allS (.inl n94) all0))) (by omega) hel2) ?_; rintro _ w98 ⟨b108, o109, _, rfl, hc111, rfl, rfl⟩
          show wpList _ _ _ _ (fr [_, _, _, _, _, _, _, _, _, _, _, _, _, _, _, _, _, _, _, _, _, _, _, _, _, _, _, _, _, _, _, _, _, _, _, _, _, _, _, _, _, _, _, _, _, _, _, _, _, _, _, _, _, _, _, _, _, _, _, _, _, _, _, _, _, _, _, _, _, _, _, _, _, _, _, _, _, _]) _
          refine q_is rfl rfl (does_load (u := (Iv el2)) (ev rfl) Try.isAgg2 (Cells.at hc111 0 rfl)) (by dsimp only [List.set]; try rfl) ?_
          refine q_is rfl rfl (does_assign (u := (Iv el2)) (ev rfl)) (by dsimp only [List.set]; try rfl) ?_
          refine wpList_nil (hK107 _ _ ?_)
          refine wp_seq_k fun K112 hK112 => ?_
          refine wp_seq_k fun K113 hK113 => ?_
          refine wp_region_lit ?_
          refine q_is rfl rfl (does_move (u := (Iv el2)) (ev rfl)) (by dsimp only [List.set]; try rfl) ?_
          refine q_is rfl rfl (does_move (u := (Iv (k : Int))) (ev rfl)) (by dsimp only [List.set]; try rfl) ?_
          refine q_is rfl rfl (does_iarith (p := (k : Int)) (q := 1) (r := (k : Int) - 1) (ev rfl) (ev rfl) (.inr (.inl ⟨rfl, (in_i64 (by omega) (by omega)).symm⟩))) (by dsimp only [List.set]; try rfl) ?_
          refine seqd rfl rfl (does_call (args := #[(Iv el2), (Iv 0), (Iv ((k : Int) - 1))]) cal55 (evs rfl) (c_impl_in el2 0 ((k : Int) - 1) _)) ?_; rintro _ w115 ⟨E114, rfl⟩
          have X116 := Ext.gr X101 E114
          show wpList _ _ _ _ (fr [_, _, _, _, _, _, _, _, _, _, _, _, _, _, _, _, _, _, _, _, _, _, _, _, _, _, _, _, _, _, _, _, _, _, _, _, _, _, _, _, _, _, _, _, _, _, _, _, _, _, _, _, _, _, _, _, _, _, _, _, _, _, _, _, _, _, _, _, _, _, _, _, _, _, _, _, _, _]) _
          refine q_is rfl rfl (does_not (ev rfl)) (by dsimp only [List.set]; try rfl) ?_
          refine wpList_nil (hK113 _ _ ?_)
          refine wp_cond_split (t := !(inI el2 0 ((k : Int) - 1))) (ev rfl) (fun c117 => ?_) (fun c117 => ?_)
          · rw [Bool.not_eq_true'] at c117
            have c117' := c117
            (try simp only [hβ1] at c117')
            (try simp only [icmp, Bool.and_eq_true, Bool.or_eq_true, Bool.and_eq_false_iff, Bool.or_eq_false_iff, Bool.not_eq_true', Bool.not_eq_false', decide_eq_true_eq, decide_eq_false_iff_not, beq_iff_eq, bne_iff_ne, beq_eq_false_iff_ne, bne_eq_false_iff_eq] at c117')
            have hbd : nodeIn el1 k = false := nodeI_bad2 hno.1 hel2 (by assumption)
            refine wp_seq_k fun K118 hK118 => ?_
            refine wp_region_lit ?_
            refine q_is rfl rfl (does_assign (u := (Bo false)) (ev rfl)) (by dsimp only [List.set]; try rfl) ?_
            refine wpList_nil (hK118 _ _ ?_)
            refine wp_ret ?_
            dsimp only [Exit.then, Exit.inBlock]
            refine ret_val (v := (Bo false)) (res_T rfl (slot rfl)) X116 ?_
            try simp only [hel1, hβ1, hel2] at c19 c45 c84 c105 c117
            have x119 : (isShape A_s_) = false := by first | exact isShape_bad hel1 hbd | exact isShape_len (fun hh => by rw [inI_iff.2 hh] at hnb; cases hnb) | exact isShape_last hb hok (by omega) hk (by assumption) | (simp only [hel1, hβ1, hel2, c19, c45, c84, c105, c117]; exact isShape_last hb hok (by omega) hk (by assumption))
            exact (by first | with_reducible rfl | rw [x119] | rfl)
          rw [Bool.not_eq_false'] at c117
          have c117' := c117
          (try simp only [hβ1] at c117')
          (try simp only [icmp, Bool.and_eq_true, Bool.or_eq_true, Bool.and_eq_false_iff, Bool.or_eq_false_iff, Bool.not_eq_true', Bool.not_eq_false', decide_eq_true_eq, decide_eq_false_iff_not, beq_iff_eq, bne_iff_ne, beq_eq_false_iff_ne, bne_eq_false_iff_eq] at c117')
          have hci := inI_iff.1 (by assumption : inI el2 0 ((k : Int) - 1) = true)
          refine wp_skip (hK112 _ _ ?_)
          refine wp_region_lit ?_
          refine q_is rfl rfl (does_move (u := (.slice (some ⟨b23, 0, none⟩) A_s_.nodes.length A_s_.nodes.length)) (ev rfl)) (by dsimp only [List.set]; try rfl) ?_
          refine q_is rfl rfl (does_move (u := (Iv el2)) (ev rfl)) (by dsimp only [List.set]; try rfl) ?_
          refine q_is rfl rfl (does_indexOwn (b := b23) (n := A_s_.nodes.length) (i := el2) Try.underlying108 Try.sizeOf3 (ev rfl) (ev rfl) (by omega) (by omega)) (by dsimp only [List.set]; try rfl) ?_
          obtain ⟨el3, hel3⟩ : ∃ e, (((chL el1).take m).foldl incL (useTo A_s_.nodes k))[el2.toNat]? = some e := ⟨_, List.getElem?_eq_getElem (by first | assumption | omega | (simp only [useTo_len, foldI_len, List.length_set, List.length_replicate]; omega) | (simp only [useTo_len, foldI_len, List.length_set, List.length_replicate]; done))⟩
          refine q_is rfl rfl (does_loadRowI (xs := (((chL el1).take m).foldl incL (useTo A_s_.nodes k))) (i := el2.toNat) (e := el3) (ev rfl) Try.isAgg3 (RowG.ext hR102 RI.flat E114) rfl hel3) (by dsimp only [List.set]; try rfl) ?_
          refine q_is rfl rfl (does_iarith (p := el3) (q := 1) (r := IntKind.i64.wrap (el3 + 1)) (ev rfl) (ev rfl) (.inl ⟨rfl, rfl⟩)) (by dsimp only [List.set]; try rfl) ?_
          refine q_is rfl rfl (does_indexOwn (b := b23) (n := A_s_.nodes.length) (i := el2) Try.underlying108 Try.sizeOf3 (ev rfl) (ev rfl) (by omega) (by omega)) (by dsimp only [List.set]; try rfl) ?_
          refine seqn rfl rfl (does_storeRowG (R := RI) (k := 1) (xs := (((chL el1).take m).foldl incL (useTo A_s_.nodes k))) (i := el2.toNat) (u := (Iv (IntKind.i64.wrap (el3 + 1)))) (e := (IntKind.i64.wrap (el3 + 1))) (ev rfl) (ev rfl) Try.sizeOf3 rfl rfl RI.flat (RowG.ext hR102 RI.flat E114) rfl (by first | assumption | omega | (simp only [useTo_len, foldI_len, List.length_set, List.length_replicate]; omega) | (simp only [useTo_len, foldI_len, List.length_set, List.length_replicate]; done)) rfl) ?_; rintro _ w122 ⟨rfl, W120, hR121⟩
          have X123 := Below.wr X116 W120 g32
          refine wpList_nil (hK106 _ _ ?_)
          refine wp_region_lit ?_
          refine q_is rfl rfl (does_iarith (p := (m : Int)) (q := 1) (r := (m : Int) + 1) (ev rfl) (ev rfl) (.inl ⟨rfl, (in_i64 (by omega) (by omega)).symm⟩)) (by dsimp only [List.set]; try rfl) ?_
          refine q_is rfl rfl (does_move (u := (Iv ((m : Int) + 1))) (ev rfl)) (by dsimp only [List.set]; try rfl) ?_
          refine wpList_nil ?_
          have hR124 := RowG.cast (ys := ((fun (m : Nat) => ((chL el1).take m).foldl incL (useTo A_s_.nodes k)) (m + 1))) hR121 (by (try dsimp only); rw [fold_take hel2]; exact incL_at hel3)
          refine ⟨m + 1, ⟨fun t => (([(.agg #[(.slice p3 A_s_.nodes.length q4)]), (Pt b7 0), (u97 2), (.slice (some ⟨b23, 0, none⟩) A_s_.nodes.length A_s_.nodes.length), (Iv (k : Int)), (Pt b49 o50), Ud, (Iv el2), Ud, (Pt b7 0), (.slice p3 A_s_.nodes.length q4), (Iv (A_s_.nodes.length : Int)), (Bo (inI (A_s_.nodes.length : Int) 1 16)), (Bo (!(inI (A_s_.nodes.length : Int) 1 16))), (Pt b7 0), (.slice p3 A_s_.nodes.length q4), (Iv (A_s_.nodes.length : Int)), (.slice (some ⟨b23, 0, none⟩) A_s_.nodes.length A_s_.nodes.length), (Pt b7 0), (.slice p3 A_s_.nodes.length q4), (Iv (A_s_.nodes.length : Int)), (Iv (k : Int)), (Bo (icmp .lss (k : Int) (A_s_.nodes.length : Int))), (Iv (k : Int)), (Pt b7 0), (.slice p3 A_s_.nodes.length q4), (Iv (k : Int)), (Pt b49 o50), v64, v65, v66, v67, v68, v69, v70, v71, v72, v73, v74, v75, v76, v77, (Bo ((!β1) || (!(axOk el1)))), (Pt b49 o50), (.slice p95 ((chL el1).length) q96), (Iv (((chL el1).length) : Int)), (Iv ((m : Int) + 1)), (Bo (icmp .lss (m : Int) (((chL el1).length) : Int))), (Pt b108 o109), (Iv el2), (Iv el2), (Iv (k : Int)), (Iv ((k : Int) - 1)), (Bo (inI el2 0 ((k : Int) - 1))), (Bo (!(inI el2 0 ((k : Int) - 1)))), (.slice (some ⟨b23, 0, none⟩) A_s_.nodes.length A_s_.nodes.length), (Iv el2), (Pt b23 (el2.toNat * 1)), (Iv el3), (Iv (IntKind.i64.wrap (el3 + 1))), (Pt b23 (el2.toNat * 1)), (Iv ((m : Int) + 1)), (u37 62), Ud, Ud, Ud, Ud, Ud, Ud, Ud, Ud, Ud, Ud, Ud, Ud, Ud, Ud, Ud] : List Value)[t]?).getD undef, ?_, (KpL.more (KpL.ext E99 E114) (KpL.of_wr W120) (allS (.inl (by simp)) all0)), hR124, ?_⟩, ?_⟩
          · first | rfl | (simp only [Nat.cast_add, Nat.cast_one, Int.natCast_add, Int.natCast_one]; rfl)
          · (try dsimp only); exact ⟨by omega, AllTo.step hal hel2 (by assumption)⟩
          · (try dsimp only); omega
        have c105' := c105
        (try simp only [hβ1] at c105')
        (try simp only [icmp, Bool.and_eq_true, Bool.or_eq_true, Bool.and_eq_false_iff, Bool.or_eq_false_iff, Bool.not_eq_true', Bool.not_eq_false', decide_eq_true_eq, decide_eq_false_iff_not, beq_iff_eq, bne_iff_ne, beq_eq_false_iff_ne, bne_eq_false_iff_eq] at c105')
        refine wp_exit ?_
        refine hK46 _ _ ?_
        refine wp_region_lit ?_
        refine q_is rfl rfl (does_iarith (p := (k : Int)) (q := 1) (r := (k : Int) + 1) (ev rfl) (ev rfl) (.inl ⟨rfl, (in_i64 (by omega) (by omega)).symm⟩)) (by dsimp only [List.set]; try rfl) ?_
        refine q_is rfl rfl (does_move (u := (Iv ((k : Int) + 1))) (ev rfl)) (by dsimp only [List.set]; try rfl) ?_
        refine wpList_nil ?_
        have hR125 := RowG.cast (ys := ((fun (k : Nat) => useTo A_s_.nodes k) (k + 1))) hR102 (by (try dsimp only); rw [useTo_succ hel1, useN_ch hno.1, List.take_of_length_le (by omega)])
        refine ⟨k + 1, ⟨fun t => (([(.agg #[(.slice p3 A_s_.nodes.length q4)]), (Pt b7 0), (u97 2), (.slice (some ⟨b23, 0, none⟩) A_s_.nodes.length A_s_.nodes.length), (Iv (k : Int)), (Pt b49 o50), Ud, (u97 7), Ud, (Pt b7 0), (.slice p3 A_s_.nodes.length q4), (Iv (A_s_.nodes.length : Int)), (Bo (inI (A_s_.nodes.length : Int) 1 16)), (Bo (!(inI (A_s_.nodes.length : Int) 1 16))), (Pt b7 0), (.slice p3 A_s_.nodes.length q4), (Iv (A_s_.nodes.length : Int)), (.slice (some ⟨b23, 0, none⟩) A_s_.nodes.length A_s_.nodes.length), (Pt b7 0), (.slice p3 A_s_.nodes.length q4), (Iv (A_s_.nodes.length : Int)), (Iv ((k : Int) + 1)), (Bo (icmp .lss (k : Int) (A_s_.nodes.length : Int))), (Iv (k : Int)), (Pt b7 0), (.slice p3 A_s_.nodes.length q4), (Iv (k : Int)), (Pt b49 o50), v64, v65, v66, v67, v68, v69, v70, v71, v72, v73, v74, v75, v76, v77, (Bo ((!β1) || (!(axOk el1)))), (Pt b49 o50), (.slice p95 ((chL el1).length) q96), (Iv (((chL el1).length) : Int)), (Iv (m : Int)), (Bo (icmp .lss (m : Int) (((chL el1).length) : Int))), (u97 48), (u97 49), (u97 50), (u97 51), (u97 52), (u97 53), (u97 54), (u97 55), (u97 56), (u97 57), (u97 58), (u97 59), (u97 60), (u97 61), (Iv ((k : Int) + 1)), Ud, Ud, Ud, Ud, Ud, Ud, Ud, Ud, Ud, Ud, Ud, Ud, Ud, Ud, Ud] : List Value)[t]?).getD undef, ?_, (KpL.more (KpL.ext (KpL.ext (KpL.ext E39 E61) E80) E88) E99 (allS (.inl (by simp)) all0)), hR125, ?_⟩, ?_⟩
        · first | rfl | (simp only [Nat.cast_add, Nat.cast_one, Int.natCast_add, Int.natCast_one]; rfl)
        · exact ⟨by omega, OkTo.step hok hel1 (nodeI_good hno.1 hno.2.1 hno.2.2 hal (by omega))⟩
        · omega
    have c45' := c45
    (try simp only [icmp, Bool.and_eq_true, Bool.or_eq_true, Bool.and_eq_false_iff, Bool.or_eq_false_iff, Bool.not_eq_true', Bool.not_eq_false', decide_eq_true_eq, decide_eq_false_iff_not, beq_iff_eq, bne_iff_ne, beq_eq_false_iff_ne, bne_eq_false_iff_eq] at c45')
    refine wp_exit ?_
    refine hK35 _ _ ?_
    refine wp_seq_k fun K126 hK126 => ?_
    refine wp_region_lit ?_
    refine q_is rfl rfl (does_move (u := (.slice (some ⟨b23, 0, none⟩) A_s_.nodes.length A_s_.nodes.length)) (ev rfl)) (by dsimp only [List.set]; try rfl) ?_
    refine q_is rfl rfl (does_len_slice Try.underlying108 (ev rfl)) (by dsimp only [List.set]; try rfl) ?_
    refine q_is rfl rfl (does_iarith (p := (A_s_.nodes.length : Int)) (q := 1) (r := (A_s_.nodes.length : Int) - 1) (ev rfl) (ev rfl) (.inr (.inl ⟨rfl, (in_i64 (by omega) (by omega)).symm⟩))) (by dsimp only [List.set]; try rfl) ?_
    refine q_is rfl rfl (does_assign (u := (Iv ((A_s_.nodes.length : Int) - 1))) (ev rfl)) (by dsimp only [List.set]; try rfl) ?_
    refine wpList_nil (hK126 _ _ ?_)
    refine wp_seq_k fun K127 hK127 => ?_
    obtain ⟨el4, hel4⟩ : ∃ e, (useTo A_s_.nodes k)[(((A_s_.nodes.length : Int) - 1).toNat)]? = some e := ⟨_, List.getElem?_eq_getElem (by first | assumption | omega | (simp only [useTo_len, foldI_len, List.length_set, List.length_replicate]; omega) | (simp only [useTo_len, foldI_len, List.length_set, List.length_replicate]; done))⟩
    obtain ⟨β2, hβ2⟩ : ∃ b : Bool, b = (((useTo A_s_.nodes k).take ((A_s_.nodes.length : Int) - 1).toNat).any (fun x => icmp .neq x 1)) := ⟨_, rfl⟩
    obtain ⟨β3, hβ3⟩ : ∃ b : Bool, b = ((icmp .eql el4 0) && (!β2)) := ⟨_, rfl⟩
    refine region_text (
      [Fact.pure [] (fun v => v = (.slice (some ⟨b23, 0, none⟩) A_s_.nodes.length A_s_.nodes.length)),
    Fact.pure [] (fun v => v = (Iv ((A_s_.nodes.length : Int) - 1))),
    Fact.pure [66, 67] (fun v => v = (Pt b23 ((((A_s_.nodes.length : Int) - 1).toNat) * 1))),
    Fact.pure [68] (fun v => v = (Iv el4)),
    Fact.pure [69] (fun v => v = (Bo (icmp .eql el4 0))),
    Fact.pure [70] (fun v => v = (Bo (icmp .eql el4 0))),
    Fact.pure [71] (fun v => (icmp .eql el4 0) = true → v = (.slice (some ⟨b23, 0, none⟩) A_s_.nodes.length A_s_.nodes.length)),
    Fact.pure [71] (fun v => (icmp .eql el4 0) = true → v = (Iv ((A_s_.nodes.length : Int) - 1))),
    Fact.mem [72, 73, 71] (fun v w' => (icmp .eql el4 0) = true → ∃ y_1 : Value, v = y_1 ∧ Sl RI 1 w' y_1 ((useTo A_s_.nodes k).take ((A_s_.nodes.length : Int) - 1).toNat)) (by intro v w1 w2 hx h hg1; obtain ⟨z1, rfl, k0⟩ := h hg1; exact ⟨_, rfl, (k0.ext RI.mono hx)⟩),
    Fact.pure [74, 71] (fun v => (icmp .eql el4 0) = true → v = (Bo β2)),
    Fact.pure [75, 71] (fun v => (icmp .eql el4 0) = true → v = (Bo (!β2))),
    Fact.pure [71, 76] (fun v => v = (Bo β3))]) (by simp [Fact.pure, Fact.mem]) ?_
    refine RW_d _ rfl (fun v => by dsimp only [List.set]; try rfl) (fun u hu hF => ?_) (fun v128 => ?_)
    · clear hF
      refine doesG_un rfl ?_
      refine (does_move (u := (.slice (some ⟨b23, 0, none⟩) A_s_.nodes.length A_s_.nodes.length)) (ev rfl)).mono ?_; rintro _ _ ⟨rfl, rfl⟩
      exact ⟨rfl, Ext.refl _⟩
    refine RW_d _ rfl (fun v => by dsimp only [List.set]; try rfl) (fun u hu hF => ?_) (fun v129 => ?_)
    · clear hF
      refine doesG_un rfl ?_
      refine (does_move (u := (Iv ((A_s_.nodes.length : Int) - 1))) (ev rfl)).mono ?_; rintro _ _ ⟨rfl, rfl⟩
      exact ⟨rfl, Ext.refl _⟩
    refine RW_d _ rfl (fun v => by dsimp only [List.set]; try rfl) (fun u hu hF => ?_) (fun v130 => ?_)
    · have h66_ : v128 = (.slice (some ⟨b23, 0, none⟩) A_s_.nodes.length A_s_.nodes.length) := hF.1
      have h67_ : v129 = (Iv ((A_s_.nodes.length : Int) - 1)) := hF.2.1
      clear hF
      refine doesG_un rfl ?_
      obtain rfl := h66_
      obtain rfl := h67_
      refine (does_indexOwn (b := b23) (n := A_s_.nodes.length) (i := (A_s_.nodes.length : Int) - 1) Try.underlying108 Try.sizeOf3 (ev rfl) (ev rfl) (by omega) (by omega)).mono ?_; rintro _ _ ⟨rfl, rfl⟩
      exact ⟨rfl, Ext.refl _⟩
    refine RW_d _ rfl (fun v => by dsimp only [List.set]; try rfl) (fun u hu hF => ?_) (fun v131 => ?_)
    · have h68_ : v130 = (Pt b23 ((((A_s_.nodes.length : Int) - 1).toNat) * 1)) := hF.1
      clear hF
      refine doesG_un rfl ?_
      obtain rfl := h68_
      refine (does_loadRowI (xs := (useTo A_s_.nodes k)) (i := (((A_s_.nodes.length : Int) - 1).toNat)) (e := el4) (ev rfl) Try.isAgg3 (RowG.ext hR42 RI.flat hu) rfl hel4).mono ?_; rintro _ _ ⟨rfl, rfl⟩
      exact ⟨rfl, Ext.refl _⟩
    refine RW_d _ rfl (fun v => by dsimp only [List.set]; try rfl) (fun u hu hF => ?_) (fun v132 => ?_)
    · have h69_ : v131 = (Iv el4) := hF.1
      clear hF
      refine doesG_un rfl ?_
      obtain rfl := h69_
      refine (does_icmp (p := el4) (q := 0) (.inl rfl) (ev rfl) (ev rfl)).mono ?_; rintro _ _ ⟨rfl, rfl⟩
      exact ⟨rfl, Ext.refl _⟩
    refine RW_d _ rfl (fun v => by dsimp only [List.set]; try rfl) (fun u hu hF => ?_) (fun v133 => ?_)
    · have h70_ : v132 = (Bo (icmp .eql el4 0)) := hF.1
      clear hF
      refine doesG_un rfl ?_
      obtain rfl := h70_
      refine (does_move (u := (Bo (icmp .eql el4 0))) (ev rfl)).mono ?_; rintro _ _ ⟨rfl, rfl⟩
      exact ⟨rfl, Ext.refl _⟩
    refine RW_d _ rfl (fun v => by dsimp only [List.set]; try rfl) (fun u hu hF => ?_) (fun v134 => ?_)
    · have h71_ : v133 = (Bo (icmp .eql el4 0)) := hF.1
      clear hF
      obtain rfl := h71_
      refine doesG_g (b := (icmp .eql el4 0)) rfl (yld rfl rfl) (fun hg1 => ?_) (fun hc => ⟨fun hg1 => absurd hg1 hc, Ext.refl _⟩)
      refine (does_move (u := (.slice (some ⟨b23, 0, none⟩) A_s_.nodes.length A_s_.nodes.length)) (ev rfl)).mono ?_; rintro _ _ ⟨rfl, rfl⟩
      exact ⟨fun _ => rfl, Ext.refl _⟩
    refine RW_d _ rfl (fun v => by dsimp only [List.set]; try rfl) (fun u hu hF => ?_) (fun v135 => ?_)
    · have h71_ : v133 = (Bo (icmp .eql el4 0)) := hF.1
      clear hF
      obtain rfl := h71_
      refine doesG_g (b := (icmp .eql el4 0)) rfl (yld rfl rfl) (fun hg1 => ?_) (fun hc => ⟨fun hg1 => absurd hg1 hc, Ext.refl _⟩)
      refine (does_move (u := (Iv ((A_s_.nodes.length : Int) - 1))) (ev rfl)).mono ?_; rintro _ _ ⟨rfl, rfl⟩
      exact ⟨fun _ => rfl, Ext.refl _⟩
    refine RW_d _ rfl (fun v => by dsimp only [List.set]; try rfl) (fun u hu hF => ?_) (fun v136 => ?_)
    · have h72_ : (icmp .eql el4 0) = true → v134 = (.slice (some ⟨b23, 0, none⟩) A_s_.nodes.length A_s_.nodes.length) := hF.1
      have h73_ : (icmp .eql el4 0) = true → v135 = (Iv ((A_s_.nodes.length : Int) - 1)) := hF.2.1
      have h71_ : v133 = (Bo (icmp .eql el4 0)) := hF.2.2.1
      clear hF
      obtain rfl := h71_
      refine doesG_g (b := (icmp .eql el4 0)) rfl (yld rfl rfl) (fun hg1 => ?_) (fun hc => ⟨fun hg1 => absurd hg1 hc, Ext.refl _⟩)
      obtain rfl := h72_ hg1
      obtain rfl := h73_ hg1
      refine (does_sliceTo (R := RI) (k := 1) (xs := (useTo A_s_.nodes k)) (h := ((A_s_.nodes.length : Int) - 1)) Try.underlying108 Try.sizeOf3 (ev rfl) (ev rfl) (RowG.sl (RowG.ext hR42 RI.flat hu) RI.flat (by first | assumption | omega | (simp only [useTo_len, foldI_len, List.length_set, List.length_replicate]; omega) | (simp only [useTo_len, foldI_len, List.length_set, List.length_replicate]; done)) (Nat.le_refl _) (by omega) (by decide)) (by omega) (by first | omega | (simp only [useTo_len]; omega))).mono ?_; rintro v u' ⟨hx, ⟨yn1, hv, k0⟩⟩
      exact ⟨fun _ => ⟨yn1, hv, k0⟩, hx⟩
    refine RW_d _ rfl (fun v => by dsimp only [List.set]; try rfl) (fun u hu hF => ?_) (fun v137 => ?_)
    · have h74_ : (icmp .eql el4 0) = true → ∃ y_1 : Value, v136 = y_1 ∧ Sl RI 1 u y_1 ((useTo A_s_.nodes k).take ((A_s_.nodes.length : Int) - 1).toNat) := hF.1
      have h71_ : v133 = (Bo (icmp .eql el4 0)) := hF.2.1
      clear hF
      obtain rfl := h71_
      refine doesG_g (b := (icmp .eql el4 0)) rfl (yld rfl rfl) (fun hg1 => ?_) (fun hc => ⟨fun hg1 => absurd hg1 hc, Ext.refl _⟩)
      obtain ⟨y74_1, rfl, h74_2⟩ := h74_ hg1
      have hh74_2 := h74_2; obtain ⟨p74_3, q74_4, rfl⟩ := Sl.shape h74_2
      refine (does_call (args := #[(.slice p74_3 (((useTo A_s_.nodes k).take ((A_s_.nodes.length : Int) - 1).toNat).length) q74_4), (.func (.func 60) #[] #[])]) cal59 (evs rfl) (c_slices_ContainsFunc_int_int (.slice p74_3 (((useTo A_s_.nodes k).take ((A_s_.nodes.length : Int) - 1).toNat).length) q74_4) ((useTo A_s_.nodes k).take ((A_s_.nodes.length : Int) - 1).toNat) (.func (.func 60) #[] #[]) (fun x => icmp .neq x 1) _ hh74_2 ⟨60, #[], #[], rfl, cal60, fun n0 u hu'  => by simpa using (c_impl_ValidShape_1 n0 u)⟩)).mono ?_; rintro v u' ⟨hx, hv⟩
      exact ⟨fun _ => hv.trans (by simp only [hβ2]), hx⟩
    refine RW_d _ rfl (fun v => by dsimp only [List.set]; try rfl) (fun u hu hF => ?_) (fun v138 => ?_)
    · have h75_ : (icmp .eql el4 0) = true → v137 = (Bo β2) := hF.1
      have h71_ : v133 = (Bo (icmp .eql el4 0)) := hF.2.1
      clear hF
      obtain rfl := h71_
      refine doesG_g (b := (icmp .eql el4 0)) rfl (yld rfl rfl) (fun hg1 => ?_) (fun hc => ⟨fun hg1 => absurd hg1 hc, Ext.refl _⟩)
      obtain rfl := h75_ hg1
      refine (does_not (ev rfl)).mono ?_; rintro _ _ ⟨rfl, rfl⟩
      exact ⟨fun _ => rfl, Ext.refl _⟩
    refine RW_d _ rfl (fun v => by dsimp only [List.set]; try rfl) (fun u hu hF => ?_) (fun v139 => ?_)
    · have h71_ : v133 = (Bo (icmp .eql el4 0)) := hF.1
      have h76_ : (icmp .eql el4 0) = true → v138 = (Bo (!β2)) := hF.2.1
      clear hF
      refine doesG_un rfl ?_
      skip
      obtain rfl := h71_
      refine (does_pick (b := (icmp .eql el4 0)) (u := v138) (v := (Bo false)) (ev rfl) (ev rfl) (ev rfl)).mono ?_; rintro _ _ ⟨rfl, rfl⟩; refine ⟨?_, Ext.refl _⟩; rw [hβ3]; skip
      cases hbb : (icmp .eql el4 0)
      all_goals first | (show _ = _; simp only [↓reduceIte, Bool.true_and, Bool.false_and, Bool.true_or, Bool.false_or, Bool.false_eq_true]; done) | (have e_ := h76_ hbb; subst e_; show _ = _; simp only [↓reduceIte, Bool.true_and, Bool.false_and, Bool.true_or, Bool.false_or, Bool.false_eq_true]; done) | rfl | (have e_ := h76_ hbb; subst e_; rfl) | (simp [hbb] at h76_ ⊢; first | done | rfl | (subst h76_; rfl) | simp_all) | (simp [hbb] at h76_ ⊢; done)
    refine RW_fin ?_; intro w140 E141 hP142
    obtain ⟨⟨⟨⟨⟨⟨⟨⟨⟨⟨⟨⟨-, -⟩, -⟩, -⟩, -⟩, -⟩, -⟩, -⟩, -⟩, -⟩, -⟩, -⟩, q143⟩ := hP142
    have X144 := Ext.gr X41 E141
    have q143 : v139 = (Bo β3) := q143
    obtain rfl := q143
    show wpList _ _ _ _ (fr [_, _, _, _, _, _, _, _, _, _, _, _, _, _, _, _, _, _, _, _, _, _, _, _, _, _, _, _, _, _, _, _, _, _, _, _, _, _, _, _, _, _, _, _, _, _, _, _, _, _, _, _, _, _, _, _, _, _, _, _, _, _, _, _, _, _, _, _, _, _, _, _, _, _, _, _, _, _]) _
    refine q_is rfl rfl (does_assign (u := (Bo β3)) (ev rfl)) (by dsimp only [List.set]; try rfl) ?_
    refine wpList_nil (hK127 _ _ ?_)
    refine wp_ret ?_
    refine ret_val (v := (Bo β3)) (res_T rfl (slot rfl)) X144 ?_
    try simp only [hβ2, hβ3, hel4] at c19 c45
    have x145 : (isShape A_s_) = β3 := by first | exact isShape_bad hel1 hbd | exact isShape_len (fun hh => by rw [inI_iff.2 hh] at hnb; cases hnb) | exact isShape_last hb hok (by omega) hk (by assumption) | (simp only [hβ2, hβ3, hel4, c19, c45]; exact isShape_last hb hok (by omega) hk (by assumption))
    exact (by first | with_reducible rfl | rw [x145] | rfl)

/- impl.finiteVector -/
theorem c_impl_finiteVector (v : List Value) (A_v : V3) (w : World) (hv_v : RV3 w A_v v) : Gives Try.prog 45 #[(.agg v.toArray)] w (fun v w' => v = (Bo (finV A_v))) := by
  obtain ⟨r1, r3, r5, rfl, h2, h4, h6⟩ := hv_v
  refine enter [(.agg #[(Fl r1), (Fl r3), (Fl r5)]), Ud, Ud, Ud, Ud, Ud, Ud, Ud, Ud, Ud, Ud] Try.func45 rfl Try.ntmps45 rfl ?_
  refine wp_seq_k fun K7 hK7 => ?_
  refine wp_region_lit ?_
  refine seqd rfl rfl (does_box (u := (.agg #[(Fl r1), (Fl r3), (Fl r5)])) (ev rfl)) ?_; rintro _ w12 ⟨b8, rfl, hb9, hB10, E11⟩
  have g13 : w.heap.size ≤ b8 := Nat.le_trans (Below.size (Ext.refl w)) hb9
  change Blk _ _ [(Fl r1), (Fl r3), (Fl r5)] at hB10
  have X14 := Ext.gr (Ext.refl w) E11
  show wpList _ _ _ _ (fr [(.agg #[(Fl r1), (Fl r3), (Fl r5)]), (Pt b8 0), Ud, Ud, Ud, Ud, Ud, Ud, Ud, Ud, Ud]) _
  refine q_is (l' := [(.agg #[(Fl r1), (Fl r3), (Fl r5)]), (Pt b8 0), (Bo false), Ud, Ud, Ud, Ud, Ud, Ud, Ud, Ud]) rfl rfl (does_assign (u := (Bo false)) (ev rfl)) rfl ?_
  refine wpList_nil (hK7 _ _ ?_)
  refine wp_seq_k fun K15 hK15 => ?_
  refine wp_region_lit ?_
  refine q_is (l' := [(.agg #[(Fl r1), (Fl r3), (Fl r5)]), (Pt b8 0), (Bo false), (Pt b8 0), Ud, Ud, Ud, Ud, Ud, Ud, Ud]) rfl rfl (does_fieldAddr (ev rfl) fa40_0) rfl ?_
  refine q_is (l' := [(.agg #[(Fl r1), (Fl r3), (Fl r5)]), (Pt b8 0), (Bo false), (Pt b8 0), (Fl r1), Ud, Ud, Ud, Ud, Ud, Ud]) rfl rfl (does_load (u := (Fl r1)) (ev rfl) Try.isAgg38 (Cells.at (Blk.cells hB10) 0 rfl)) rfl ?_
  refine q_is (l' := [(.agg #[(Fl r1), (Fl r3), (Fl r5)]), (Pt b8 0), (Bo false), (Pt b8 0), (Fl r1), (Pt b8 1), Ud, Ud, Ud, Ud, Ud]) rfl rfl (does_fieldAddr (ev rfl) fa40_1) rfl ?_
  refine q_is (l' := [(.agg #[(Fl r1), (Fl r3), (Fl r5)]), (Pt b8 0), (Bo false), (Pt b8 0), (Fl r1), (Pt b8 1), (Fl r3), Ud, Ud, Ud, Ud]) rfl rfl (does_load (u := (Fl r3)) (ev rfl) Try.isAgg38 (Cells.at (Blk.cells hB10) 1 rfl)) rfl ?_
  refine q_is (l' := [(.agg #[(Fl r1), (Fl r3), (Fl r5)]), (Pt b8 0), (Bo false), (Pt b8 0), (Fl r1), (Pt b8 1), (Fl r3), (Pt b8 2), Ud, Ud, Ud]) rfl rfl (does_fieldAddr (ev rfl) fa40_2) rfl ?_
  refine q_is (l' := [(.agg #[(Fl r1), (Fl r3), (Fl r5)]), (Pt b8 0), (Bo false), (Pt b8 0), (Fl r1), (Pt b8 1), (Fl r3), (Pt b8 2), (Fl r5), Ud, Ud]) rfl rfl (does_load (u := (Fl r5)) (ev rfl) Try.isAgg38 (Cells.at (Blk.cells hB10) 2 rfl)) rfl ?_
  refine seqd rfl rfl (does_buildSlice (e := 38) (parts' := [(0, (Fl r1)), (1, (Fl r3)), (2, (Fl r5))]) (cells := [(Fl r1), (Fl r3), (Fl r5)]) (evp rfl) (fun _ => by kernel_rfl)) ?_; rintro _ w20 ⟨b16, rfl, hb17, hB18, E19⟩
  have n21 : b8 < b16 := Nat.lt_of_lt_of_le (Blk.lt hB10) hb17
  have g22 : w.heap.size ≤ b16 := Nat.le_trans (Below.size X14) hb17
  have X23 := Ext.gr X14 E19
  show wpList _ _ _ _ (fr [(.agg #[(Fl r1), (Fl r3), (Fl r5)]), (Pt b8 0), (Bo false), (Pt b8 0), (Fl r1), (Pt b8 1), (Fl r3), (Pt b8 2), (Fl r5), (.slice (some ⟨b16, 0, none⟩) 3 3), Ud]) _
  refine seqd rfl rfl (does_call (args := #[(.slice (some ⟨b16, 0, none⟩) 3 3)]) cal79 (evs rfl) (c_impl_finite (.slice (some ⟨b16, 0, none⟩) 3 3) [(cf .f32 r1), (cf .f32 r3), (cf .f32 r5)] _ (Sl_lit3 hB18 ⟨_, rfl, rfl⟩ ⟨_, rfl, rfl⟩ ⟨_, rfl, rfl⟩))) ?_; rintro _ w25 ⟨E24, rfl⟩
  have X26 := Ext.gr X23 E24
  show wpList _ _ _ _ (fr [(.agg #[(Fl r1), (Fl r3), (Fl r5)]), (Pt b8 0), (Bo false), (Pt b8 0), (Fl r1), (Pt b8 1), (Fl r3), (Pt b8 2), (Fl r5), (.slice (some ⟨b16, 0, none⟩) 3 3), (Bo (!([(cf .f32 r1), (cf .f32 r3), (cf .f32 r5)]).any (fun x => !finF x)))]) _
  refine q_is (l' := [(.agg #[(Fl r1), (Fl r3), (Fl r5)]), (Pt b8 0), (Bo (!([(cf .f32 r1), (cf .f32 r3), (cf .f32 r5)]).any (fun x => !finF x))), (Pt b8 0), (Fl r1), (Pt b8 1), (Fl r3), (Pt b8 2), (Fl r5), (.slice (some ⟨b16, 0, none⟩) 3 3), (Bo (!([(cf .f32 r1), (cf .f32 r3), (cf .f32 r5)]).any (fun x => !finF x)))]) rfl rfl (does_assign (u := (Bo (!([(cf .f32 r1), (cf .f32 r3), (cf .f32 r5)]).any (fun x => !finF x)))) (ev rfl)) rfl ?_
  refine wpList_nil (hK15 _ _ ?_)
  refine wp_ret ?_
  refine ret_val (v := (Bo (!([(cf .f32 r1), (cf .f32 r3), (cf .f32 r5)]).any (fun x => !finF x)))) (res_T rfl (slot rfl)) X26 ?_
  have x27 : (finV A_v) = (!([(cf .f32 r1), (cf .f32 r3), (cf .f32 r5)]).any (fun x => !finF x)) := by first | with_reducible rfl | (simp only [finV, any3_finF, h2, h4, h6]; done) | (simp [finV, any3_finF, h2, h4, h6]; done) | rfl
  exact (by first | with_reducible rfl | rw [x27] | rfl)

/- impl.IsName -/
theorem c_impl_IsName (s_ : ByteArray) (w : World) (hsz : s_.size ≤ 9223372036854775807) : Gives Try.prog 69 #[(.string s_)] w (fun v w' => v = (Bo (isNm s_))) := by
  refine enter [(.string s_), Ud, Ud, Ud, Ud, Ud, Ud, Ud, Ud, Ud, Ud, Ud, Ud, Ud, Ud, Ud, Ud, Ud, Ud, Ud, Ud, Ud, Ud, Ud, Ud, Ud, Ud, Ud] Try.func69 rfl Try.ntmps69 rfl ?_
  refine wp_seq_k fun K1 hK1 => ?_
  refine wp_region_lit ?_
  refine q_is rfl rfl (does_assign (u := (Bo false)) (ev rfl)) (by dsimp only [List.set]; try rfl) ?_
  refine wpList_nil (hK1 _ _ ?_)
  refine wp_seq_k fun K2 hK2 => ?_
  refine wp_seq_k fun K3 hK3 => ?_
  refine wp_region_lit ?_
  refine q_is rfl rfl (does_move (u := (.string s_)) (ev rfl)) (by dsimp only [List.set]; try rfl) ?_
  refine q_is rfl rfl (does_len_string Try.underlying9 (ev rfl)) (by dsimp only [List.set]; try rfl) ?_
  refine q_is rfl rfl (does_move (u := (Iv 0)) (ev rfl)) (by dsimp only [List.set]; try rfl) ?_
  refine wpList_nil (hK3 _ _ ?_)
  refine wp_block ?_
  refine loop_ghost (σ := Nat) (fun k a w' => ∃ u4 : Nat → Value, a = fr [(.string s_), Ud, (u4 2), (u4 3), (.string s_), (Iv (s_.size : Int)), (Iv (k : Int)), (u4 7), (u4 8), (u4 9), (u4 10), (u4 11), (u4 12), (u4 13), (u4 14), (u4 15), (u4 16), (u4 17), (u4 18), (u4 19), Ud, Ud, Ud, Ud, Ud, Ud, Ud, Ud] ∧ Ext w w' ∧ (k ≤ s_.size ∧ NmTo s_ k)) (fun k => s_.size - k) 0 ?_ ?_
  · refine ⟨fun t => (([(.string s_), Ud, (Bo false), Ud, (.string s_), (Iv (s_.size : Int)), (Iv 0), Ud, Ud, Ud, Ud, Ud, Ud, Ud, Ud, Ud, Ud, Ud, Ud, Ud, Ud, Ud, Ud, Ud, Ud, Ud, Ud, Ud] : List Value)[t]?).getD undef, rfl, Ext.refl _, ?_⟩
    exact ⟨Nat.zero_le _, NmTo.zero⟩
  · rintro k a w5 ⟨u4, rfl, E6, ⟨hk, hnm⟩⟩
    have X8 := Ext.gr (Ext.refl w) E6
    refine wp_seq_k fun K9 hK9 => ?_
    refine wp_region_lit ?_
    refine q_is rfl rfl (does_icmp (p := (k : Int)) (q := (s_.size : Int)) (.inr (.inr (.inl rfl))) (ev rfl) (ev rfl)) (by dsimp only [List.set]; try rfl) ?_
    refine wpList_nil (hK9 _ _ ?_)
    refine wp_seq_k fun K10 hK10 => ?_
    refine wp_cond_split (t := icmp .lss (k : Int) (s_.size : Int)) (ev rfl) (fun c11 => ?_) (fun c11 => ?_)
    · have c11' := c11
      (try simp only [icmp, Bool.and_eq_true, Bool.or_eq_true, Bool.and_eq_false_iff, Bool.or_eq_false_iff, Bool.not_eq_true', Bool.not_eq_false', decide_eq_true_eq, decide_eq_false_iff_not, beq_iff_eq, bne_iff_ne, beq_eq_false_iff_ne, bne_eq_false_iff_eq] at c11')
      refine wp_skip (hK10 _ _ ?_)
      refine wp_seq_k fun K12 hK12 => ?_
      refine wp_block ?_
      refine wp_seq_k fun K13 hK13 => ?_
      refine wp_region_lit ?_
      refine q_is rfl rfl (does_move (u := (Iv (k : Int))) (ev rfl)) (by dsimp only [List.set]; try rfl) ?_
      refine q_is rfl rfl (does_assign (u := (Iv (k : Int))) (ev rfl)) (by dsimp only [List.set]; try rfl) ?_
      refine wpList_nil (hK13 _ _ ?_)
      refine wp_seq_k fun K14 hK14 => ?_
      obtain ⟨β1, hβ1⟩ : ∃ b : Bool, b = (icmp .lss ((byteAt s_ k : Nat) : Int) 97) := ⟨_, rfl⟩
      obtain ⟨β2, hβ2⟩ : ∃ b : Bool, b = (icmp .gtr ((byteAt s_ k : Nat) : Int) 122) := ⟨_, rfl⟩
      refine region_text (
        [Fact.pure [] (fun v => v = (.string s_)),
    Fact.pure [] (fun v => v = (Iv (k : Int))),
    Fact.pure [9, 10] (fun v => v = (Uv ((byteAt s_ k : Nat) : Int))),
    Fact.pure [11] (fun v => v = (Bo β1)),
    Fact.pure [12] (fun v => v = (Bo β1)),
    Fact.pure [13] (fun v => β1 = false → v = (.string s_)),
    Fact.pure [13] (fun v => β1 = false → v = (Iv (k : Int))),
    Fact.pure [14, 15, 13] (fun v => β1 = false → v = (Uv ((byteAt s_ k : Nat) : Int))),
    Fact.pure [16, 13] (fun v => β1 = false → v = (Bo β2)),
    Fact.pure [13, 17] (fun v => v = (Bo (β1 || β2)))]) (by simp [Fact.pure, Fact.mem]) ?_
      refine RW_d _ rfl (fun v => by dsimp only [List.set]; try rfl) (fun u hu hF => ?_) (fun v15 => ?_)
      · clear hF
        refine doesG_un rfl ?_
        refine (does_move (u := (.string s_)) (ev rfl)).mono ?_; rintro _ _ ⟨rfl, rfl⟩
        exact ⟨rfl, Ext.refl _⟩
      refine RW_d _ rfl (fun v => by dsimp only [List.set]; try rfl) (fun u hu hF => ?_) (fun v16 => ?_)
      · clear hF
        refine doesG_un rfl ?_
        refine (does_move (u := (Iv (k : Int))) (ev rfl)).mono ?_; rintro _ _ ⟨rfl, rfl⟩
        exact ⟨rfl, Ext.refl _⟩
      refine RW_d _ rfl (fun v => by dsimp only [List.set]; try rfl) (fun u hu hF => ?_) (fun v17 => ?_)
      · have h9_ : v15 = (.string s_) := hF.1
        have h10_ : v16 = (Iv (k : Int)) := hF.2.1
        clear hF
        refine doesG_un rfl ?_
        obtain rfl := h9_
        obtain rfl := h10_
        refine (does_index_string (s := s_) (i := (k : Int)) Try.underlying9 (ev rfl) (ev rfl) (by omega) (by omega)).mono ?_; rintro _ _ ⟨rfl, rfl⟩
        exact ⟨rfl, Ext.refl _⟩
      refine RW_d _ rfl (fun v => by dsimp only [List.set]; try rfl) (fun u hu hF => ?_) (fun v18 => ?_)
      · have h11_ : v17 = (Uv ((byteAt s_ k : Nat) : Int)) := hF.1
        clear hF
        refine doesG_un rfl ?_
        obtain rfl := h11_
        refine (does_icmp (p := ((byteAt s_ k : Nat) : Int)) (q := 97) (.inr (.inr (.inl rfl))) (ev rfl) (ev rfl)).mono ?_; rintro _ _ ⟨rfl, rfl⟩
        exact ⟨(by first | rfl | (show _ = _; simp only [hβ1]; done) | (show _ = _; simp only [hβ1]; rfl)), Ext.refl _⟩
      refine RW_d _ rfl (fun v => by dsimp only [List.set]; try rfl) (fun u hu hF => ?_) (fun v19 => ?_)
      · have h12_ : v18 = (Bo β1) := hF.1
        clear hF
        refine doesG_un rfl ?_
        obtain rfl := h12_
        refine (does_move (u := (Bo β1)) (ev rfl)).mono ?_; rintro _ _ ⟨rfl, rfl⟩
        exact ⟨rfl, Ext.refl _⟩
      refine RW_d _ rfl (fun v => by dsimp only [List.set]; try rfl) (fun u hu hF => ?_) (fun v20 => ?_)
      · have h13_ : v19 = (Bo β1) := hF.1
        clear hF
        obtain rfl := h13_
        refine doesG_g (b := β1) rfl (yld rfl rfl) (fun hg1 => ?_) (fun hc => ⟨fun hg1 => absurd hg1 hc, Ext.refl _⟩)
        refine (does_move (u := (.string s_)) (ev rfl)).mono ?_; rintro _ _ ⟨rfl, rfl⟩
        exact ⟨fun _ => rfl, Ext.refl _⟩
      refine RW_d _ rfl (fun v => by dsimp only [List.set]; try rfl) (fun u hu hF => ?_) (fun v21 => ?_)
      · have h13_ : v19 = (Bo β1) := hF.1
        clear hF
        obtain rfl := h13_
        refine doesG_g (b := β1) rfl (yld rfl rfl) (fun hg1 => ?_) (fun hc => ⟨fun hg1 => absurd hg1 hc, Ext.refl _⟩)
        refine (does_move (u := (Iv (k : Int))) (ev rfl)).mono ?_; rintro _ _ ⟨rfl, rfl⟩
        exact ⟨fun _ => rfl, Ext.refl _⟩
      refine RW_d _ rfl (fun v => by dsimp only [List.set]; try rfl) (fun u hu hF => ?_) (fun v22 => ?_)
      · have h14_ : β1 = false → v20 = (.string s_) := hF.1
        have h15_ : β1 = false → v21 = (Iv (k : Int)) := hF.2.1
        have h13_ : v19 = (Bo β1) := hF.2.2.1
        clear hF
        obtain rfl := h13_
        refine doesG_g (b := β1) rfl (yld rfl rfl) (fun hg1 => ?_) (fun hc => ⟨fun hg1 => absurd hg1 hc, Ext.refl _⟩)
        obtain rfl := h14_ hg1
        obtain rfl := h15_ hg1
        refine (does_index_string (s := s_) (i := (k : Int)) Try.underlying9 (ev rfl) (ev rfl) (by omega) (by omega)).mono ?_; rintro _ _ ⟨rfl, rfl⟩
        exact ⟨fun _ => rfl, Ext.refl _⟩
      refine RW_d _ rfl (fun v => by dsimp only [List.set]; try rfl) (fun u hu hF => ?_) (fun v23 => ?_)
      · have h16_ : β1 = false → v22 = (Uv ((byteAt s_ k : Nat) : Int)) := hF.1
        have h13_ : v19 = (Bo β1) := hF.2.1
        clear hF
        obtain rfl := h13_
        refine doesG_g (b := β1) rfl (yld rfl rfl) (fun hg1 => ?_) (fun hc => ⟨fun hg1 => absurd hg1 hc, Ext.refl _⟩)
        obtain rfl := h16_ hg1
        refine (does_icmp (p := ((byteAt s_ k : Nat) : Int)) (q := 122) (.inr (.inr (.inr (.inr (.inl rfl))))) (ev rfl) (ev rfl)).mono ?_; rintro _ _ ⟨rfl, rfl⟩
        exact ⟨fun _ => (by first | rfl | (show _ = _; simp only [hβ2]; done) | (show _ = _; simp only [hβ2]; rfl)), Ext.refl _⟩
      refine RW_d _ rfl (fun v => by dsimp only [List.set]; try rfl) (fun u hu hF => ?_) (fun v24 => ?_)
      · have h13_ : v19 = (Bo β1) := hF.1
        have h17_ : β1 = false → v23 = (Bo β2) := hF.2.1
        clear hF
        refine doesG_un rfl ?_
        skip
        obtain rfl := h13_
        refine (does_pick (b := β1) (u := (Bo true)) (v := v23) (ev rfl) (ev rfl) (ev rfl)).mono ?_; rintro _ _ ⟨rfl, rfl⟩; refine ⟨?_, Ext.refl _⟩; skip
        cases hbb : β1
        all_goals first | (show _ = _; simp only [↓reduceIte, Bool.true_and, Bool.false_and, Bool.true_or, Bool.false_or, Bool.false_eq_true]; done) | (have e_ := h17_ hbb; subst e_; show _ = _; simp only [↓reduceIte, Bool.true_and, Bool.false_and, Bool.true_or, Bool.false_or, Bool.false_eq_true]; done) | rfl | (have e_ := h17_ hbb; subst e_; rfl) | (simp [hbb] at h17_ ⊢; first | done | rfl | (subst h17_; rfl) | simp_all) | (simp [hbb] at h17_ ⊢; done)
      refine RW_fin ?_; intro w25 E26 hP27
      obtain ⟨⟨⟨⟨⟨⟨⟨⟨⟨⟨-, -⟩, -⟩, -⟩, -⟩, -⟩, -⟩, -⟩, -⟩, -⟩, q28⟩ := hP27
      have X29 := Ext.gr X8 E26
      have q28 : v24 = (Bo (β1 || β2)) := q28
      obtain rfl := q28
      show wpList _ _ _ _ (fr [_, _, _, _, _, _, _, _, _, _, _, _, _, _, _, _, _, _, _, _, _, _, _, _, _, _, _, _]) _
      refine wpList_nil (hK14 _ _ ?_)
      refine wp_cond_split (t := β1 || β2) (ev rfl) (fun c30 => ?_) (fun c30 => ?_)
      · have c30' := c30
        (try simp only [hβ1, hβ2] at c30')
        (try simp only [icmp, Bool.and_eq_true, Bool.or_eq_true, Bool.and_eq_false_iff, Bool.or_eq_false_iff, Bool.not_eq_true', Bool.not_eq_false', decide_eq_true_eq, decide_eq_false_iff_not, beq_iff_eq, bne_iff_ne, beq_eq_false_iff_ne, bne_eq_false_iff_eq] at c30')
        refine wp_seq_k fun K31 hK31 => ?_
        refine wp_region_lit ?_
        refine q_is rfl rfl (does_assign (u := (Bo false)) (ev rfl)) (by dsimp only [List.set]; try rfl) ?_
        refine wpList_nil (hK31 _ _ ?_)
        refine wp_ret ?_
        dsimp only [Exit.then, Exit.inBlock]
        refine ret_val (v := (Bo false)) (res_T rfl (slot rfl)) X29 ?_
        try simp only [hβ1, hβ2] at c11 c30
        have x32 : (isNm s_) = false := by first | exact isNm_bad (by omega) (by omega) | (rw [isNm_ok hnm (by omega)]; simp only [hβ1, hβ2, c11, c30]; done)
        exact (by first | with_reducible rfl | rw [x32] | rfl)
      have c30' := c30
      (try simp only [hβ1, hβ2] at c30')
      (try simp only [icmp, Bool.and_eq_true, Bool.or_eq_true, Bool.and_eq_false_iff, Bool.or_eq_false_iff, Bool.not_eq_true', Bool.not_eq_false', decide_eq_true_eq, decide_eq_false_iff_not, beq_iff_eq, bne_iff_ne, beq_eq_false_iff_ne, bne_eq_false_iff_eq] at c30')
      refine wp_skip (hK12 _ _ ?_)
      refine wp_region_lit ?_
      refine q_is rfl rfl (does_iarith (p := (k : Int)) (q := 1) (r := (k : Int) + 1) (ev rfl) (ev rfl) (.inl ⟨rfl, (in_i64 (by omega) (by omega)).symm⟩)) (by dsimp only [List.set]; try rfl) ?_
      refine q_is rfl rfl (does_move (u := (Iv ((k : Int) + 1))) (ev rfl)) (by dsimp only [List.set]; try rfl) ?_
      refine wpList_nil ?_
      refine ⟨k + 1, ⟨fun t => (([(.string s_), Ud, (u4 2), (Iv (k : Int)), (.string s_), (Iv (s_.size : Int)), (Iv ((k : Int) + 1)), (Bo (icmp .lss (k : Int) (s_.size : Int))), (Iv (k : Int)), v15, v16, v17, v18, v19, v20, v21, v22, v23, (Bo (β1 || β2)), (Iv ((k : Int) + 1)), Ud, Ud, Ud, Ud, Ud, Ud, Ud, Ud] : List Value)[t]?).getD undef, ?_, (Ext.gr E6 E26), ?_⟩, ?_⟩
      · first | rfl | (simp only [Nat.cast_add, Nat.cast_one, Int.natCast_add, Int.natCast_one]; rfl)
      · exact ⟨by omega, NmTo.step hnm (by omega) (by omega)⟩
      · omega
    have c11' := c11
    (try simp only [icmp, Bool.and_eq_true, Bool.or_eq_true, Bool.and_eq_false_iff, Bool.or_eq_false_iff, Bool.not_eq_true', Bool.not_eq_false', decide_eq_true_eq, decide_eq_false_iff_not, beq_iff_eq, bne_iff_ne, beq_eq_false_iff_ne, bne_eq_false_iff_eq] at c11')
    refine wp_exit ?_
    refine hK2 _ _ ?_
    refine wp_seq_k fun K33 hK33 => ?_
    obtain ⟨β3, hβ3⟩ : ∃ b : Bool, b = (icmp .geq (s_.size : Int) 1) := ⟨_, rfl⟩
    obtain ⟨β4, hβ4⟩ : ∃ b : Bool, b = (icmp .leq (s_.size : Int) 8) := ⟨_, rfl⟩
    refine region_text (
      [Fact.pure [] (fun v => v = (.string s_)),
    Fact.pure [20] (fun v => v = (Iv (s_.size : Int))),
    Fact.pure [21] (fun v => v = (Bo β3)),
    Fact.pure [22] (fun v => v = (Bo β3)),
    Fact.pure [23] (fun v => β3 = true → v = (.string s_)),
    Fact.pure [24, 23] (fun v => β3 = true → v = (Iv (s_.size : Int))),
    Fact.pure [25, 23] (fun v => β3 = true → v = (Bo β4)),
    Fact.pure [23, 26] (fun v => v = (Bo (β3 && β4)))]) (by simp [Fact.pure, Fact.mem]) ?_
    refine RW_d _ rfl (fun v => by dsimp only [List.set]; try rfl) (fun u hu hF => ?_) (fun v34 => ?_)
    · clear hF
      refine doesG_un rfl ?_
      refine (does_move (u := (.string s_)) (ev rfl)).mono ?_; rintro _ _ ⟨rfl, rfl⟩
      exact ⟨rfl, Ext.refl _⟩
    refine RW_d _ rfl (fun v => by dsimp only [List.set]; try rfl) (fun u hu hF => ?_) (fun v35 => ?_)
    · have h20_ : v34 = (.string s_) := hF.1
      clear hF
      refine doesG_un rfl ?_
      obtain rfl := h20_
      refine (does_len_string Try.underlying9 (ev rfl)).mono ?_; rintro _ _ ⟨rfl, rfl⟩
      exact ⟨rfl, Ext.refl _⟩
    refine RW_d _ rfl (fun v => by dsimp only [List.set]; try rfl) (fun u hu hF => ?_) (fun v36 => ?_)
    · have h21_ : v35 = (Iv (s_.size : Int)) := hF.1
      clear hF
      refine doesG_un rfl ?_
      obtain rfl := h21_
      refine (does_icmp (p := (s_.size : Int)) (q := 1) (.inr (.inr (.inr (.inr (.inr rfl))))) (ev rfl) (ev rfl)).mono ?_; rintro _ _ ⟨rfl, rfl⟩
      exact ⟨(by first | rfl | (show _ = _; simp only [hβ3]; done) | (show _ = _; simp only [hβ3]; rfl)), Ext.refl _⟩
    refine RW_d _ rfl (fun v => by dsimp only [List.set]; try rfl) (fun u hu hF => ?_) (fun v37 => ?_)
    · have h22_ : v36 = (Bo β3) := hF.1
      clear hF
      refine doesG_un rfl ?_
      obtain rfl := h22_
      refine (does_move (u := (Bo β3)) (ev rfl)).mono ?_; rintro _ _ ⟨rfl, rfl⟩
      exact ⟨rfl, Ext.refl _⟩
    refine RW_d _ rfl (fun v => by dsimp only [List.set]; try rfl) (fun u hu hF => ?_) (fun v38 => ?_)
    · have h23_ : v37 = (Bo β3) := hF.1
      clear hF
      obtain rfl := h23_
      refine doesG_g (b := β3) rfl (yld rfl rfl) (fun hg1 => ?_) (fun hc => ⟨fun hg1 => absurd hg1 hc, Ext.refl _⟩)
      refine (does_move (u := (.string s_)) (ev rfl)).mono ?_; rintro _ _ ⟨rfl, rfl⟩
      exact ⟨fun _ => rfl, Ext.refl _⟩
    refine RW_d _ rfl (fun v => by dsimp only [List.set]; try rfl) (fun u hu hF => ?_) (fun v39 => ?_)
    · have h24_ : β3 = true → v38 = (.string s_) := hF.1
      have h23_ : v37 = (Bo β3) := hF.2.1
      clear hF
      obtain rfl := h23_
      refine doesG_g (b := β3) rfl (yld rfl rfl) (fun hg1 => ?_) (fun hc => ⟨fun hg1 => absurd hg1 hc, Ext.refl _⟩)
      obtain rfl := h24_ hg1
      refine (does_len_string Try.underlying9 (ev rfl)).mono ?_; rintro _ _ ⟨rfl, rfl⟩
      exact ⟨fun _ => rfl, Ext.refl _⟩
    refine RW_d _ rfl (fun v => by dsimp only [List.set]; try rfl) (fun u hu hF => ?_) (fun v40 => ?_)
    · have h25_ : β3 = true → v39 = (Iv (s_.size : Int)) := hF.1
      have h23_ : v37 = (Bo β3) := hF.2.1
      clear hF
      obtain rfl := h23_
      refine doesG_g (b := β3) rfl (yld rfl rfl) (fun hg1 => ?_) (fun hc => ⟨fun hg1 => absurd hg1 hc, Ext.refl _⟩)
      obtain rfl := h25_ hg1
      refine (does_icmp (p := (s_.size : Int)) (q := 8) (.inr (.inr (.inr (.inl rfl)))) (ev rfl) (ev rfl)).mono ?_; rintro _ _ ⟨rfl, rfl⟩
      exact ⟨fun _ => (by first | rfl | (show _ = _; simp only [hβ4]; done) | (show _ = _; simp only [hβ4]; rfl)), Ext.refl _⟩
    refine RW_d _ rfl (fun v => by dsimp only [List.set]; try rfl) (fun u hu hF => ?_) (fun v41 => ?_)
    · have h23_ : v37 = (Bo β3) := hF.1
      have h26_ : β3 = true → v40 = (Bo β4) := hF.2.1
      clear hF
      refine doesG_un rfl ?_
      skip
      obtain rfl := h23_
      refine (does_pick (b := β3) (u := v40) (v := (Bo false)) (ev rfl) (ev rfl) (ev rfl)).mono ?_; rintro _ _ ⟨rfl, rfl⟩; refine ⟨?_, Ext.refl _⟩; skip
      cases hbb : β3
      all_goals first | (show _ = _; simp only [↓reduceIte, Bool.true_and, Bool.false_and, Bool.true_or, Bool.false_or, Bool.false_eq_true]; done) | (have e_ := h26_ hbb; subst e_; show _ = _; simp only [↓reduceIte, Bool.true_and, Bool.false_and, Bool.true_or, Bool.false_or, Bool.false_eq_true]; done) | rfl | (have e_ := h26_ hbb; subst e_; rfl) | (simp [hbb] at h26_ ⊢; first | done | rfl | (subst h26_; rfl) | simp_all) | (simp [hbb] at h26_ ⊢; done)
    refine RW_fin ?_; intro w42 E43 hP44
    obtain ⟨⟨⟨⟨⟨⟨⟨⟨-, -⟩, -⟩, -⟩, -⟩, -⟩, -⟩, -⟩, q45⟩ := hP44
    have X46 := Ext.gr X8 E43
    have q45 : v41 = (Bo (β3 && β4)) := q45
    obtain rfl := q45
    show wpList _ _ _ _ (fr [_, _, _, _, _, _, _, _, _, _, _, _, _, _, _, _, _, _, _, _, _, _, _, _, _, _, _, _]) _
    refine q_is rfl rfl (does_assign (u := (Bo (β3 && β4))) (ev rfl)) (by dsimp only [List.set]; try rfl) ?_
    refine wpList_nil (hK33 _ _ ?_)
    refine wp_ret ?_
    refine ret_val (v := (Bo (β3 && β4))) (res_T rfl (slot rfl)) X46 ?_
    try simp only [hβ3, hβ4] at c11
    have x47 : (isNm s_) = (β3 && β4) := by first | exact isNm_bad (by omega) (by omega) | (rw [isNm_ok hnm (by omega)]; simp only [hβ3, hβ4, c11]; done)
    exact (by first | with_reducible rfl | rw [x47] | rfl)

end Go.Proofs.Ytiagimgdjngnfaa
