/- contracts of functions, each walked once -/
import Derived.Test.YtgmpdiehpimpnaaN
namespace Go.Proofs.Ytgmpdiehpimpnaa
open Go Go.RowKit
set_option maxRecDepth 100000
set_option maxHeartbeats 3200000
set_option linter.unusedVariables false
set_option linter.unusedSimpArgs false

/- spec.l02Numbers -/
theorem c_spec_l02Numbers (kind : Int) (nums : Value) (L_nums : List Nat) (w : World) (hv_nums : Sl RF 1 w nums L_nums) : Gives Try.prog 41 #[(Iv kind), nums] w (fun v w' => v = (Bo (nodeNums kind L_nums))) := by
  have hlen_nums := Sl.len hv_nums; obtain ⟨p_nums, q_nums, rfl⟩ := Sl.shape hv_nums
  refine enter [(Iv kind), (.slice p_nums L_nums.length q_nums), Ud, Ud, Ud, Ud, Ud, Ud, Ud, Ud, Ud, Ud, Ud, Ud, Ud, Ud, Ud, Ud, Ud, Ud, Ud, Ud, Ud, Ud, Ud, Ud, Ud, Ud, Ud, Ud, Ud, Ud, Ud, Ud, Ud, Ud, Ud, Ud, Ud, Ud, Ud, Ud, Ud, Ud, Ud] Try.func41 rfl Try.ntmps41 rfl ?_
  refine wp_seq_k fun K1 hK1 => ?_
  refine wp_region_lit ?_
  refine q_is rfl rfl (does_assign (u := (Bo false)) (ev rfl)) (by dsimp only [List.set]; try rfl) ?_
  refine wpList_nil (hK1 _ _ ?_)
  refine wp_seq_k fun K2 hK2 => ?_
  refine wp_seq_k fun K3 hK3 => ?_
  refine wp_region_lit ?_
  refine q_is rfl rfl (does_move (u := (.slice p_nums L_nums.length q_nums)) (ev rfl)) (by dsimp only [List.set]; try rfl) ?_
  refine q_is rfl rfl (does_len_slice Try.underlying22 (ev rfl)) (by dsimp only [List.set]; try rfl) ?_
  refine q_is rfl rfl (does_move (u := (Iv kind)) (ev rfl)) (by dsimp only [List.set]; try rfl) ?_
  refine seqd rfl rfl (does_call (args := #[(Iv kind)]) cal83 (evs rfl) (c_spec_l02Count kind _)) ?_; rintro _ w5 ⟨E4, rfl⟩
  have X6 := Ext.gr (Ext.refl w) E4
  show wpList _ _ _ _ (fr [(Iv kind), (.slice p_nums L_nums.length q_nums), Ud, Ud, (Bo false), Ud, (.slice p_nums L_nums.length q_nums), (Iv (L_nums.length : Int)), (Iv kind), (Iv (rlNum kind)), Ud, Ud, Ud, Ud, Ud, Ud, Ud, Ud, Ud, Ud, Ud, Ud, Ud, Ud, Ud, Ud, Ud, Ud, Ud, Ud, Ud, Ud, Ud, Ud, Ud, Ud, Ud, Ud, Ud, Ud, Ud, Ud, Ud, Ud, Ud]) _
  refine q_is rfl rfl (does_icmp (p := (L_nums.length : Int)) (q := rlNum kind) (.inr (.inl rfl)) (ev rfl) (ev rfl)) (by dsimp only [List.set]; try rfl) ?_
  refine wpList_nil (hK3 _ _ ?_)
  refine wp_cond_split (t := icmp .neq (L_nums.length : Int) (rlNum kind)) (ev rfl) (fun c7 => ?_) (fun c7 => ?_)
  · have c7' := c7
    (try simp only [icmp, Bool.and_eq_true, Bool.or_eq_true, Bool.and_eq_false_iff, Bool.or_eq_false_iff, Bool.not_eq_true', Bool.not_eq_false', decide_eq_true_eq, decide_eq_false_iff_not, beq_iff_eq, bne_iff_ne, beq_eq_false_iff_ne, bne_eq_false_iff_eq] at c7')
    refine wp_seq_k fun K8 hK8 => ?_
    refine wp_region_lit ?_
    refine q_is rfl rfl (does_assign (u := (Bo false)) (ev rfl)) (by dsimp only [List.set]; try rfl) ?_
    refine wpList_nil (hK8 _ _ ?_)
    refine wp_ret ?_
    dsimp only [Exit.then, Exit.inBlock]
    refine ret_val (v := (Bo false)) (res_T rfl (slot rfl)) X6 ?_
    have x9 : (nodeNums kind L_nums) = false := by first | exact nodeNums_len (by omega) | exact nodeNums_bad (by assumption) (by simp_all [numOk, rlSg, inI, icmp, lssF, leqF]) | exact nodeNums_ok (by omega) hal (by omega)
    exact (by first | rfl | rw [x9])
  have c7' := c7
  (try simp only [icmp, Bool.and_eq_true, Bool.or_eq_true, Bool.and_eq_false_iff, Bool.or_eq_false_iff, Bool.not_eq_true', Bool.not_eq_false', decide_eq_true_eq, decide_eq_false_iff_not, beq_iff_eq, bne_iff_ne, beq_eq_false_iff_ne, bne_eq_false_iff_eq] at c7')
  refine wp_skip (hK2 _ _ ?_)
  refine wp_seq_k fun K10 hK10 => ?_
  refine wp_seq_k fun K11 hK11 => ?_
  refine wp_region_lit ?_
  refine q_is rfl rfl (does_assign (u := (Iv 0)) (ev rfl)) (by dsimp only [List.set]; try rfl) ?_
  refine wpList_nil (hK11 _ _ ?_)
  refine wp_block ?_
  refine loop_ghost (σ := Nat) (fun k a w' => ∃ u12 : Nat → Value, a = fr [(Iv kind), (.slice p_nums L_nums.length q_nums), Ud, Ud, (u12 4), (Iv (k : Int)), (.slice p_nums L_nums.length q_nums), (Iv (L_nums.length : Int)), (Iv kind), (Iv (rlNum kind)), (Bo (icmp .neq (L_nums.length : Int) (rlNum kind))), (u12 11), (u12 12), (u12 13), (u12 14), (u12 15), (u12 16), (u12 17), (u12 18), (u12 19), (u12 20), (u12 21), (u12 22), (u12 23), (u12 24), (u12 25), (u12 26), (u12 27), (u12 28), (u12 29), (u12 30), (u12 31), (u12 32), (u12 33), (u12 34), (u12 35), (u12 36), (u12 37), (u12 38), (u12 39), (u12 40), (u12 41), (u12 42), (u12 43), (u12 44)] ∧ Ext w5 w' ∧ (k ≤ L_nums.length ∧ AllTo (numOk kind) L_nums k)) (fun k => L_nums.length - k) 0 ?_ ?_
  · refine ⟨fun t => (([(Iv kind), (.slice p_nums L_nums.length q_nums), Ud, Ud, (Bo false), (Iv 0), (.slice p_nums L_nums.length q_nums), (Iv (L_nums.length : Int)), (Iv kind), (Iv (rlNum kind)), (Bo (icmp .neq (L_nums.length : Int) (rlNum kind))), Ud, Ud, Ud, Ud, Ud, Ud, Ud, Ud, Ud, Ud, Ud, Ud, Ud, Ud, Ud, Ud, Ud, Ud, Ud, Ud, Ud, Ud, Ud, Ud, Ud, Ud, Ud, Ud, Ud, Ud, Ud, Ud, Ud, Ud] : List Value)[t]?).getD undef, rfl, Ext.refl _, ?_⟩
    exact ⟨Nat.zero_le _, AllTo.zero⟩
  · rintro k a w13 ⟨u12, rfl, E14, ⟨hk, hal⟩⟩
    have X16 := Ext.gr X6 E14
    refine wp_seq_k fun K17 hK17 => ?_
    refine wp_seq_k fun K18 hK18 => ?_
    refine wp_region_lit ?_
    refine q_is rfl rfl (does_move (u := (Iv (k : Int))) (ev rfl)) (by dsimp only [List.set]; try rfl) ?_
    refine q_is rfl rfl (does_move (u := (.slice p_nums L_nums.length q_nums)) (ev rfl)) (by dsimp only [List.set]; try rfl) ?_
    refine q_is rfl rfl (does_len_slice Try.underlying22 (ev rfl)) (by dsimp only [List.set]; try rfl) ?_
    refine q_is rfl rfl (does_icmp (p := (k : Int)) (q := (L_nums.length : Int)) (.inr (.inr (.inl rfl))) (ev rfl) (ev rfl)) (by dsimp only [List.set]; try rfl) ?_
    refine wpList_nil (hK18 _ _ ?_)
    refine wp_cond_split (t := icmp .lss (k : Int) (L_nums.length : Int)) (ev rfl) (fun c19 => ?_) (fun c19 => ?_)
    · have c19' := c19
      (try simp only [icmp, Bool.and_eq_true, Bool.or_eq_true, Bool.and_eq_false_iff, Bool.or_eq_false_iff, Bool.not_eq_true', Bool.not_eq_false', decide_eq_true_eq, decide_eq_false_iff_not, beq_iff_eq, bne_iff_ne, beq_eq_false_iff_ne, bne_eq_false_iff_eq] at c19')
      refine wp_skip (hK17 _ _ ?_)
      refine wp_seq_k fun K20 hK20 => ?_
      refine wp_block ?_
      refine wp_seq_k fun K21 hK21 => ?_
      refine wp_seq_k fun K22 hK22 => ?_
      refine wp_region_lit ?_
      refine q_is rfl rfl (does_move (u := (.slice p_nums L_nums.length q_nums)) (ev rfl)) (by dsimp only [List.set]; try rfl) ?_
      refine q_is rfl rfl (does_move (u := (Iv (k : Int))) (ev rfl)) (by dsimp only [List.set]; try rfl) ?_
      obtain ⟨el1, hel1⟩ : ∃ e, L_nums[k]? = some e := ⟨_, List.getElem?_eq_getElem (by omega)⟩
      refine seqd rfl rfl (does_indexSl (R := RF) (i := (k : Int)) (xs := L_nums) (e := el1) Try.underlying22 Try.sizeOf62 (ev rfl) (ev rfl) (Sl.ext hv_nums RF.mono X16) (by omega) hel1) ?_; rintro _ w13 ⟨b23, o24, _, rfl, hc26, ⟨r27, rfl, h28⟩, rfl⟩
      show wpList _ _ _ _ (fr [(Iv kind), (.slice p_nums L_nums.length q_nums), Ud, Ud, (u12 4), (Iv (k : Int)), (.slice p_nums L_nums.length q_nums), (Iv (L_nums.length : Int)), (Iv kind), (Iv (rlNum kind)), (Bo (icmp .neq (L_nums.length : Int) (rlNum kind))), (Iv (k : Int)), (.slice p_nums L_nums.length q_nums), (Iv (L_nums.length : Int)), (Bo (icmp .lss (k : Int) (L_nums.length : Int))), (u12 15), (u12 16), (.slice p_nums L_nums.length q_nums), (Iv (k : Int)), (Pt b23 o24), (u12 20), (u12 21), (u12 22), (u12 23), (u12 24), (u12 25), (u12 26), (u12 27), (u12 28), (u12 29), (u12 30), (u12 31), (u12 32), (u12 33), (u12 34), (u12 35), (u12 36), (u12 37), (u12 38), (u12 39), (u12 40), (u12 41), (u12 42), (u12 43), (u12 44)]) _
      refine q_is rfl rfl (does_load (u := (Fl r27)) (ev rfl) Try.isAgg62 (Cells.at hc26 0 rfl)) (by dsimp only [List.set]; try rfl) ?_
      refine seqd rfl rfl (does_call (args := #[(Fl r27)]) cal84 (evs rfl) (c_spec_l01Finite r27 _)) ?_; rintro _ w30 ⟨E29, rfl⟩
      have X31 := Ext.gr X16 E29
      show wpList _ _ _ _ (fr [(Iv kind), (.slice p_nums L_nums.length q_nums), Ud, Ud, (u12 4), (Iv (k : Int)), (.slice p_nums L_nums.length q_nums), (Iv (L_nums.length : Int)), (Iv kind), (Iv (rlNum kind)), (Bo (icmp .neq (L_nums.length : Int) (rlNum kind))), (Iv (k : Int)), (.slice p_nums L_nums.length q_nums), (Iv (L_nums.length : Int)), (Bo (icmp .lss (k : Int) (L_nums.length : Int))), (u12 15), (u12 16), (.slice p_nums L_nums.length q_nums), (Iv (k : Int)), (Pt b23 o24), (Fl r27), (Bo (finF (cf .f32 r27))), (u12 22), (u12 23), (u12 24), (u12 25), (u12 26), (u12 27), (u12 28), (u12 29), (u12 30), (u12 31), (u12 32), (u12 33), (u12 34), (u12 35), (u12 36), (u12 37), (u12 38), (u12 39), (u12 40), (u12 41), (u12 42), (u12 43), (u12 44)]) _
      refine q_is rfl rfl (does_not (ev rfl)) (by dsimp only [List.set]; try rfl) ?_
      refine wpList_nil (hK22 _ _ ?_)
      refine wp_cond_split (t := !(finF (cf .f32 r27))) (ev rfl) (fun c32 => ?_) (fun c32 => ?_)
      · rw [Bool.not_eq_true'] at c32
        have c32' := c32
        refine wp_seq_k fun K33 hK33 => ?_
        refine wp_region_lit ?_
        refine q_is rfl rfl (does_assign (u := (Bo false)) (ev rfl)) (by dsimp only [List.set]; try rfl) ?_
        refine wpList_nil (hK33 _ _ ?_)
        refine wp_ret ?_
        dsimp only [Exit.then, Exit.inBlock]
        refine ret_val (v := (Bo false)) (res_T rfl (slot rfl)) X31 ?_
        try simp only [hel1, h28] at c7 c19 c32
        have x34 : (nodeNums kind L_nums) = false := by first | exact nodeNums_len (by omega) | exact nodeNums_bad (by assumption) (by simp_all [numOk, rlSg, inI, icmp, lssF, leqF]) | exact nodeNums_ok (by omega) hal (by omega)
        exact (by first | rfl | rw [x34])
      rw [Bool.not_eq_false'] at c32
      have c32' := c32
      refine wp_skip (hK21 _ _ ?_)
      refine wp_seq_k fun K35 hK35 => ?_
      refine wp_region_lit ?_
      refine q_is rfl rfl (does_move (u := (Iv kind)) (ev rfl)) (by dsimp only [List.set]; try rfl) ?_
      refine wpList_nil (hK35 _ _ ?_)
      refine wp_block ?_
      refine wp_seq_k fun K36 hK36 => ?_
      refine wp_seq_k fun K37 hK37 => ?_
      refine wp_region_lit ?_
      refine q_is rfl rfl (does_icmp (p := kind) (q := 0) (.inl rfl) (ev rfl) (ev rfl)) (by dsimp only [List.set]; try rfl) ?_
      refine q_is rfl rfl (does_assign (u := (Bo (icmp .eql kind 0))) (ev rfl)) (by dsimp only [List.set]; try rfl) ?_
      refine wpList_nil (hK37 _ _ ?_)
      refine wp_cond_split (t := icmp .eql kind 0) (ev rfl) (fun c38 => ?_) (fun c38 => ?_)
      · have c38' := c38
        (try simp only [icmp, Bool.and_eq_true, Bool.or_eq_true, Bool.and_eq_false_iff, Bool.or_eq_false_iff, Bool.not_eq_true', Bool.not_eq_false', decide_eq_true_eq, decide_eq_false_iff_not, beq_iff_eq, bne_iff_ne, beq_eq_false_iff_ne, bne_eq_false_iff_eq] at c38')
        refine wp_skip (hK36 _ _ ?_)
        refine wp_cond_true ((ev (rfl : evl _ _ = .bool (icmp .eql kind 0))).trans (congrArg Value.bool c38)) ?_
        refine wp_seq_k fun K39 hK39 => ?_
        refine wp_region_lit ?_
        refine q_is rfl rfl (does_move (u := (.slice p_nums L_nums.length q_nums)) (ev rfl)) (by dsimp only [List.set]; try rfl) ?_
        refine q_is rfl rfl (does_move (u := (Iv (k : Int))) (ev rfl)) (by dsimp only [List.set]; try rfl) ?_
        refine seqd rfl rfl (does_indexSl (R := RF) (i := (k : Int)) (xs := L_nums) (e := el1) Try.underlying22 Try.sizeOf62 (ev rfl) (ev rfl) (Sl.ext hv_nums RF.mono X31) (by omega) hel1) ?_; rintro _ w30 ⟨b40, o41, _, rfl, hc43, ⟨r44, rfl, h45⟩, rfl⟩
        show wpList _ _ _ _ (fr [(Iv kind), (.slice p_nums L_nums.length q_nums), Ud, Ud, (u12 4), (Iv (k : Int)), (.slice p_nums L_nums.length q_nums), (Iv (L_nums.length : Int)), (Iv kind), (Iv (rlNum kind)), (Bo (icmp .neq (L_nums.length : Int) (rlNum kind))), (Iv (k : Int)), (.slice p_nums L_nums.length q_nums), (Iv (L_nums.length : Int)), (Bo (icmp .lss (k : Int) (L_nums.length : Int))), (u12 15), (u12 16), (.slice p_nums L_nums.length q_nums), (Iv (k : Int)), (Pt b23 o24), (Fl r27), (Bo (finF (cf .f32 r27))), (Bo (!(finF (cf .f32 r27)))), (Iv kind), (Bo (icmp .eql kind 0)), (Bo (icmp .eql kind 0)), (u12 26), (u12 27), (u12 28), (u12 29), (.slice p_nums L_nums.length q_nums), (Iv (k : Int)), (Pt b40 o41), (u12 33), (u12 34), (u12 35), (u12 36), (u12 37), (u12 38), (u12 39), (u12 40), (u12 41), (u12 42), (u12 43), (u12 44)]) _
        refine q_is rfl rfl (does_load (u := (Fl r44)) (ev rfl) Try.isAgg62 (Cells.at hc43 0 rfl)) (by dsimp only [List.set]; try rfl) ?_
        refine q_is rfl rfl (does_fcmp (.inr (.inr (.inl rfl))) (ev rfl) (ev rfl)) (by dsimp only [List.set]; try rfl) ?_
        refine wpList_nil (hK39 _ _ ?_)
        refine wp_cond_split (t := fcmp .lss (ford .f32 (cf .f32 r44) (cf .f32 0))) (ev rfl) (fun c46 => ?_) (fun c46 => ?_)
        · have c46' := c46
          refine wp_seq_k fun K47 hK47 => ?_
          refine wp_region_lit ?_
          refine q_is rfl rfl (does_assign (u := (Bo false)) (ev rfl)) (by dsimp only [List.set]; try rfl) ?_
          refine wpList_nil (hK47 _ _ ?_)
          refine wp_ret ?_
          dsimp only [Exit.then, Exit.inBlock]
          refine ret_val (v := (Bo false)) (res_T rfl (slot rfl)) X31 ?_
          try simp only [hel1, h28, h45] at c7 c19 c32 c38 c46
          have x48 : (nodeNums kind L_nums) = false := by first | exact nodeNums_len (by omega) | exact nodeNums_bad (by assumption) (by simp_all [numOk, rlSg, inI, icmp, lssF, leqF]) | exact nodeNums_ok (by omega) hal (by omega)
          exact (by first | rfl | rw [x48])
        have c46' := c46
        refine wp_skip (hK20 _ _ ?_)
        refine wp_region_lit ?_
        refine q_is rfl rfl (does_move (u := (Iv (k : Int))) (ev rfl)) (by dsimp only [List.set]; try rfl) ?_
        refine q_is rfl rfl (does_iarith (p := (k : Int)) (q := 1) (r := (k : Int) + 1) (ev rfl) (ev rfl) (.inl ⟨rfl, (in_i64 (by omega) (by omega)).symm⟩)) (by dsimp only [List.set]; try rfl) ?_
        refine q_is rfl rfl (does_assign (u := (Iv ((k : Int) + 1))) (ev rfl)) (by dsimp only [List.set]; try rfl) ?_
        refine wpList_nil ?_
        refine ⟨k + 1, ⟨fun t => (([(Iv kind), (.slice p_nums L_nums.length q_nums), Ud, Ud, (u12 4), (Iv ((k : Int) + 1)), (.slice p_nums L_nums.length q_nums), (Iv (L_nums.length : Int)), (Iv kind), (Iv (rlNum kind)), (Bo (icmp .neq (L_nums.length : Int) (rlNum kind))), (Iv (k : Int)), (.slice p_nums L_nums.length q_nums), (Iv (L_nums.length : Int)), (Bo (icmp .lss (k : Int) (L_nums.length : Int))), (Iv (k : Int)), (Iv ((k : Int) + 1)), (.slice p_nums L_nums.length q_nums), (Iv (k : Int)), (Pt b23 o24), (Fl r27), (Bo (finF (cf .f32 r27))), (Bo (!(finF (cf .f32 r27)))), (Iv kind), (Bo (icmp .eql kind 0)), (Bo (icmp .eql kind 0)), (u12 26), (u12 27), (u12 28), (u12 29), (.slice p_nums L_nums.length q_nums), (Iv (k : Int)), (Pt b40 o41), (Fl r44), (Bo (fcmp .lss (ford .f32 (cf .f32 r44) (cf .f32 0)))), (u12 35), (u12 36), (u12 37), (u12 38), (u12 39), (u12 40), (u12 41), (u12 42), (u12 43), (u12 44)] : List Value)[t]?).getD undef, ?_, (Ext.gr E14 E29), ?_⟩, ?_⟩
        · first | rfl | (simp only [Nat.cast_add, Nat.cast_one, Int.natCast_add, Int.natCast_one]; rfl)
        · exact ⟨by omega, AllTo.step hal (by assumption) (by simp_all [numOk, rlSg, inI, icmp, lssF, leqF])⟩
        · omega
      have c38' := c38
      (try simp only [icmp, Bool.and_eq_true, Bool.or_eq_true, Bool.and_eq_false_iff, Bool.or_eq_false_iff, Bool.not_eq_true', Bool.not_eq_false', decide_eq_true_eq, decide_eq_false_iff_not, beq_iff_eq, bne_iff_ne, beq_eq_false_iff_ne, bne_eq_false_iff_eq] at c38')
      refine wp_seq_k fun K49 hK49 => ?_
      refine wp_region_lit ?_
      refine q_is rfl rfl (does_icmp (p := kind) (q := 1) (.inl rfl) (ev rfl) (ev rfl)) (by dsimp only [List.set]; try rfl) ?_
      refine q_is rfl rfl (does_assign (u := (Bo (icmp .eql kind 1))) (ev rfl)) (by dsimp only [List.set]; try rfl) ?_
      refine wpList_nil (hK49 _ _ ?_)
      refine wp_cond_split (t := icmp .eql kind 1) (ev rfl) (fun c50 => ?_) (fun c50 => ?_)
      · have c50' := c50
        (try simp only [icmp, Bool.and_eq_true, Bool.or_eq_true, Bool.and_eq_false_iff, Bool.or_eq_false_iff, Bool.not_eq_true', Bool.not_eq_false', decide_eq_true_eq, decide_eq_false_iff_not, beq_iff_eq, bne_iff_ne, beq_eq_false_iff_ne, bne_eq_false_iff_eq] at c50')
        refine wp_skip (hK36 _ _ ?_)
        refine wp_cond_true ((ev (rfl : evl _ _ = .bool (icmp .eql kind 1))).trans (congrArg Value.bool c50)) ?_
        refine wp_seq_k fun K51 hK51 => ?_
        refine wp_region_lit ?_
        refine q_is rfl rfl (does_move (u := (.slice p_nums L_nums.length q_nums)) (ev rfl)) (by dsimp only [List.set]; try rfl) ?_
        refine q_is rfl rfl (does_move (u := (Iv (k : Int))) (ev rfl)) (by dsimp only [List.set]; try rfl) ?_
        refine seqd rfl rfl (does_indexSl (R := RF) (i := (k : Int)) (xs := L_nums) (e := el1) Try.underlying22 Try.sizeOf62 (ev rfl) (ev rfl) (Sl.ext hv_nums RF.mono X31) (by omega) hel1) ?_; rintro _ w30 ⟨b52, o53, _, rfl, hc55, ⟨r56, rfl, h57⟩, rfl⟩
        show wpList _ _ _ _ (fr [(Iv kind), (.slice p_nums L_nums.length q_nums), Ud, Ud, (u12 4), (Iv (k : Int)), (.slice p_nums L_nums.length q_nums), (Iv (L_nums.length : Int)), (Iv kind), (Iv (rlNum kind)), (Bo (icmp .neq (L_nums.length : Int) (rlNum kind))), (Iv (k : Int)), (.slice p_nums L_nums.length q_nums), (Iv (L_nums.length : Int)), (Bo (icmp .lss (k : Int) (L_nums.length : Int))), (u12 15), (u12 16), (.slice p_nums L_nums.length q_nums), (Iv (k : Int)), (Pt b23 o24), (Fl r27), (Bo (finF (cf .f32 r27))), (Bo (!(finF (cf .f32 r27)))), (Iv kind), (Bo (icmp .eql kind 1)), (Bo (icmp .eql kind 0)), (Bo (icmp .eql kind 1)), (u12 27), (u12 28), (u12 29), (.slice p_nums L_nums.length q_nums), (Iv (k : Int)), (Pt b52 o53), (u12 33), (u12 34), (u12 35), (u12 36), (u12 37), (u12 38), (u12 39), (u12 40), (u12 41), (u12 42), (u12 43), (u12 44)]) _
        refine q_is rfl rfl (does_load (u := (Fl r56)) (ev rfl) Try.isAgg62 (Cells.at hc55 0 rfl)) (by dsimp only [List.set]; try rfl) ?_
        refine q_is rfl rfl (does_fcmp (.inr (.inr (.inl rfl))) (ev rfl) (ev rfl)) (by dsimp only [List.set]; try rfl) ?_
        refine wpList_nil (hK51 _ _ ?_)
        refine wp_cond_split (t := fcmp .lss (ford .f32 (cf .f32 r56) (cf .f32 0))) (ev rfl) (fun c58 => ?_) (fun c58 => ?_)
        · have c58' := c58
          refine wp_seq_k fun K59 hK59 => ?_
          refine wp_region_lit ?_
          refine q_is rfl rfl (does_assign (u := (Bo false)) (ev rfl)) (by dsimp only [List.set]; try rfl) ?_
          refine wpList_nil (hK59 _ _ ?_)
          refine wp_ret ?_
          dsimp only [Exit.then, Exit.inBlock]
          refine ret_val (v := (Bo false)) (res_T rfl (slot rfl)) X31 ?_
          try simp only [hel1, h28, h57] at c7 c19 c32 c38 c50 c58
          have x60 : (nodeNums kind L_nums) = false := by first | exact nodeNums_len (by omega) | exact nodeNums_bad (by assumption) (by simp_all [numOk, rlSg, inI, icmp, lssF, leqF]) | exact nodeNums_ok (by omega) hal (by omega)
          exact (by first | rfl | rw [x60])
        have c58' := c58
        refine wp_skip (hK20 _ _ ?_)
        refine wp_region_lit ?_
        refine q_is rfl rfl (does_move (u := (Iv (k : Int))) (ev rfl)) (by dsimp only [List.set]; try rfl) ?_
        refine q_is rfl rfl (does_iarith (p := (k : Int)) (q := 1) (r := (k : Int) + 1) (ev rfl) (ev rfl) (.inl ⟨rfl, (in_i64 (by omega) (by omega)).symm⟩)) (by dsimp only [List.set]; try rfl) ?_
        refine q_is rfl rfl (does_assign (u := (Iv ((k : Int) + 1))) (ev rfl)) (by dsimp only [List.set]; try rfl) ?_
        refine wpList_nil ?_
        refine ⟨k + 1, ⟨fun t => (([(Iv kind), (.slice p_nums L_nums.length q_nums), Ud, Ud, (u12 4), (Iv ((k : Int) + 1)), (.slice p_nums L_nums.length q_nums), (Iv (L_nums.length : Int)), (Iv kind), (Iv (rlNum kind)), (Bo (icmp .neq (L_nums.length : Int) (rlNum kind))), (Iv (k : Int)), (.slice p_nums L_nums.length q_nums), (Iv (L_nums.length : Int)), (Bo (icmp .lss (k : Int) (L_nums.length : Int))), (Iv (k : Int)), (Iv ((k : Int) + 1)), (.slice p_nums L_nums.length q_nums), (Iv (k : Int)), (Pt b23 o24), (Fl r27), (Bo (finF (cf .f32 r27))), (Bo (!(finF (cf .f32 r27)))), (Iv kind), (Bo (icmp .eql kind 1)), (Bo (icmp .eql kind 0)), (Bo (icmp .eql kind 1)), (u12 27), (u12 28), (u12 29), (.slice p_nums L_nums.length q_nums), (Iv (k : Int)), (Pt b52 o53), (Fl r56), (Bo (fcmp .lss (ford .f32 (cf .f32 r56) (cf .f32 0)))), (u12 35), (u12 36), (u12 37), (u12 38), (u12 39), (u12 40), (u12 41), (u12 42), (u12 43), (u12 44)] : List Value)[t]?).getD undef, ?_, (Ext.gr E14 E29), ?_⟩, ?_⟩
        · first | rfl | (simp only [Nat.cast_add, Nat.cast_one, Int.natCast_add, Int.natCast_one]; rfl)
        · exact ⟨by omega, AllTo.step hal (by assumption) (by simp_all [numOk, rlSg, inI, icmp, lssF, leqF])⟩
        · omega
      have c50' := c50
      (try simp only [icmp, Bool.and_eq_true, Bool.or_eq_true, Bool.and_eq_false_iff, Bool.or_eq_false_iff, Bool.not_eq_true', Bool.not_eq_false', decide_eq_true_eq, decide_eq_false_iff_not, beq_iff_eq, bne_iff_ne, beq_eq_false_iff_ne, bne_eq_false_iff_eq] at c50')
      refine wp_seq_k fun K61 hK61 => ?_
      refine wp_region_lit ?_
      refine q_is rfl rfl (does_icmp (p := kind) (q := 2) (.inl rfl) (ev rfl) (ev rfl)) (by dsimp only [List.set]; try rfl) ?_
      refine q_is rfl rfl (does_assign (u := (Bo (icmp .eql kind 2))) (ev rfl)) (by dsimp only [List.set]; try rfl) ?_
      refine wpList_nil (hK61 _ _ ?_)
      refine wp_cond_split (t := icmp .eql kind 2) (ev rfl) (fun c62 => ?_) (fun c62 => ?_)
      · have c62' := c62
        (try simp only [icmp, Bool.and_eq_true, Bool.or_eq_true, Bool.and_eq_false_iff, Bool.or_eq_false_iff, Bool.not_eq_true', Bool.not_eq_false', decide_eq_true_eq, decide_eq_false_iff_not, beq_iff_eq, bne_iff_ne, beq_eq_false_iff_ne, bne_eq_false_iff_eq] at c62')
        refine wp_skip (hK36 _ _ ?_)
        refine wp_cond_true ((ev (rfl : evl _ _ = .bool (icmp .eql kind 2))).trans (congrArg Value.bool c62)) ?_
        refine wp_seq_k fun K63 hK63 => ?_
        refine wp_region_lit ?_
        refine q_is rfl rfl (does_move (u := (.slice p_nums L_nums.length q_nums)) (ev rfl)) (by dsimp only [List.set]; try rfl) ?_
        refine q_is rfl rfl (does_move (u := (Iv (k : Int))) (ev rfl)) (by dsimp only [List.set]; try rfl) ?_
        refine seqd rfl rfl (does_indexSl (R := RF) (i := (k : Int)) (xs := L_nums) (e := el1) Try.underlying22 Try.sizeOf62 (ev rfl) (ev rfl) (Sl.ext hv_nums RF.mono X31) (by omega) hel1) ?_; rintro _ w30 ⟨b64, o65, _, rfl, hc67, ⟨r68, rfl, h69⟩, rfl⟩
        show wpList _ _ _ _ (fr [(Iv kind), (.slice p_nums L_nums.length q_nums), Ud, Ud, (u12 4), (Iv (k : Int)), (.slice p_nums L_nums.length q_nums), (Iv (L_nums.length : Int)), (Iv kind), (Iv (rlNum kind)), (Bo (icmp .neq (L_nums.length : Int) (rlNum kind))), (Iv (k : Int)), (.slice p_nums L_nums.length q_nums), (Iv (L_nums.length : Int)), (Bo (icmp .lss (k : Int) (L_nums.length : Int))), (u12 15), (u12 16), (.slice p_nums L_nums.length q_nums), (Iv (k : Int)), (Pt b23 o24), (Fl r27), (Bo (finF (cf .f32 r27))), (Bo (!(finF (cf .f32 r27)))), (Iv kind), (Bo (icmp .eql kind 2)), (Bo (icmp .eql kind 0)), (Bo (icmp .eql kind 1)), (Bo (icmp .eql kind 2)), (u12 28), (u12 29), (.slice p_nums L_nums.length q_nums), (Iv (k : Int)), (Pt b64 o65), (u12 33), (u12 34), (u12 35), (u12 36), (u12 37), (u12 38), (u12 39), (u12 40), (u12 41), (u12 42), (u12 43), (u12 44)]) _
        refine q_is rfl rfl (does_load (u := (Fl r68)) (ev rfl) Try.isAgg62 (Cells.at hc67 0 rfl)) (by dsimp only [List.set]; try rfl) ?_
        refine q_is rfl rfl (does_fcmp (.inr (.inr (.inl rfl))) (ev rfl) (ev rfl)) (by dsimp only [List.set]; try rfl) ?_
        refine wpList_nil (hK63 _ _ ?_)
        refine wp_cond_split (t := fcmp .lss (ford .f32 (cf .f32 r68) (cf .f32 0))) (ev rfl) (fun c70 => ?_) (fun c70 => ?_)
        · have c70' := c70
          refine wp_seq_k fun K71 hK71 => ?_
          refine wp_region_lit ?_
          refine q_is rfl rfl (does_assign (u := (Bo false)) (ev rfl)) (by dsimp only [List.set]; try rfl) ?_
          refine wpList_nil (hK71 _ _ ?_)
          refine wp_ret ?_
          dsimp only [Exit.then, Exit.inBlock]
          refine ret_val (v := (Bo false)) (res_T rfl (slot rfl)) X31 ?_
          try simp only [hel1, h28, h69] at c7 c19 c32 c38 c50 c62 c70
          have x72 : (nodeNums kind L_nums) = false := by first | exact nodeNums_len (by omega) | exact nodeNums_bad (by assumption) (by simp_all [numOk, rlSg, inI, icmp, lssF, leqF]) | exact nodeNums_ok (by omega) hal (by omega)
          exact (by first | rfl | rw [x72])
        have c70' := c70
        refine wp_skip (hK20 _ _ ?_)
        refine wp_region_lit ?_
        refine q_is rfl rfl (does_move (u := (Iv (k : Int))) (ev rfl)) (by dsimp only [List.set]; try rfl) ?_
        refine q_is rfl rfl (does_iarith (p := (k : Int)) (q := 1) (r := (k : Int) + 1) (ev rfl) (ev rfl) (.inl ⟨rfl, (in_i64 (by omega) (by omega)).symm⟩)) (by dsimp only [List.set]; try rfl) ?_
        refine q_is rfl rfl (does_assign (u := (Iv ((k : Int) + 1))) (ev rfl)) (by dsimp only [List.set]; try rfl) ?_
        refine wpList_nil ?_
        refine ⟨k + 1, ⟨fun t => (([(Iv kind), (.slice p_nums L_nums.length q_nums), Ud, Ud, (u12 4), (Iv ((k : Int) + 1)), (.slice p_nums L_nums.length q_nums), (Iv (L_nums.length : Int)), (Iv kind), (Iv (rlNum kind)), (Bo (icmp .neq (L_nums.length : Int) (rlNum kind))), (Iv (k : Int)), (.slice p_nums L_nums.length q_nums), (Iv (L_nums.length : Int)), (Bo (icmp .lss (k : Int) (L_nums.length : Int))), (Iv (k : Int)), (Iv ((k : Int) + 1)), (.slice p_nums L_nums.length q_nums), (Iv (k : Int)), (Pt b23 o24), (Fl r27), (Bo (finF (cf .f32 r27))), (Bo (!(finF (cf .f32 r27)))), (Iv kind), (Bo (icmp .eql kind 2)), (Bo (icmp .eql kind 0)), (Bo (icmp .eql kind 1)), (Bo (icmp .eql kind 2)), (u12 28), (u12 29), (.slice p_nums L_nums.length q_nums), (Iv (k : Int)), (Pt b64 o65), (Fl r68), (Bo (fcmp .lss (ford .f32 (cf .f32 r68) (cf .f32 0)))), (u12 35), (u12 36), (u12 37), (u12 38), (u12 39), (u12 40), (u12 41), (u12 42), (u12 43), (u12 44)] : List Value)[t]?).getD undef, ?_, (Ext.gr E14 E29), ?_⟩, ?_⟩
        · first | rfl | (simp only [Nat.cast_add, Nat.cast_one, Int.natCast_add, Int.natCast_one]; rfl)
        · exact ⟨by omega, AllTo.step hal (by assumption) (by simp_all [numOk, rlSg, inI, icmp, lssF, leqF])⟩
        · omega
      have c62' := c62
      (try simp only [icmp, Bool.and_eq_true, Bool.or_eq_true, Bool.and_eq_false_iff, Bool.or_eq_false_iff, Bool.not_eq_true', Bool.not_eq_false', decide_eq_true_eq, decide_eq_false_iff_not, beq_iff_eq, bne_iff_ne, beq_eq_false_iff_ne, bne_eq_false_iff_eq] at c62')
      refine wp_seq_k fun K73 hK73 => ?_
      refine wp_region_lit ?_
      refine q_is rfl rfl (does_icmp (p := kind) (q := 3) (.inl rfl) (ev rfl) (ev rfl)) (by dsimp only [List.set]; try rfl) ?_
      refine q_is rfl rfl (does_assign (u := (Bo (icmp .eql kind 3))) (ev rfl)) (by dsimp only [List.set]; try rfl) ?_
      refine wpList_nil (hK73 _ _ ?_)
      refine wp_cond_split (t := icmp .eql kind 3) (ev rfl) (fun c74 => ?_) (fun c74 => ?_)
      · have c74' := c74
        (try simp only [icmp, Bool.and_eq_true, Bool.or_eq_true, Bool.and_eq_false_iff, Bool.or_eq_false_iff, Bool.not_eq_true', Bool.not_eq_false', decide_eq_true_eq, decide_eq_false_iff_not, beq_iff_eq, bne_iff_ne, beq_eq_false_iff_ne, bne_eq_false_iff_eq] at c74')
        refine wp_skip (hK36 _ _ ?_)
        refine wp_cond_true ((ev (rfl : evl _ _ = .bool (icmp .eql kind 3))).trans (congrArg Value.bool c74)) ?_
        refine wp_seq_k fun K75 hK75 => ?_
        refine wp_region_lit ?_
        refine q_is rfl rfl (does_move (u := (.slice p_nums L_nums.length q_nums)) (ev rfl)) (by dsimp only [List.set]; try rfl) ?_
        refine q_is rfl rfl (does_move (u := (Iv (k : Int))) (ev rfl)) (by dsimp only [List.set]; try rfl) ?_
        refine seqd rfl rfl (does_indexSl (R := RF) (i := (k : Int)) (xs := L_nums) (e := el1) Try.underlying22 Try.sizeOf62 (ev rfl) (ev rfl) (Sl.ext hv_nums RF.mono X31) (by omega) hel1) ?_; rintro _ w30 ⟨b76, o77, _, rfl, hc79, ⟨r80, rfl, h81⟩, rfl⟩
        show wpList _ _ _ _ (fr [(Iv kind), (.slice p_nums L_nums.length q_nums), Ud, Ud, (u12 4), (Iv (k : Int)), (.slice p_nums L_nums.length q_nums), (Iv (L_nums.length : Int)), (Iv kind), (Iv (rlNum kind)), (Bo (icmp .neq (L_nums.length : Int) (rlNum kind))), (Iv (k : Int)), (.slice p_nums L_nums.length q_nums), (Iv (L_nums.length : Int)), (Bo (icmp .lss (k : Int) (L_nums.length : Int))), (u12 15), (u12 16), (.slice p_nums L_nums.length q_nums), (Iv (k : Int)), (Pt b23 o24), (Fl r27), (Bo (finF (cf .f32 r27))), (Bo (!(finF (cf .f32 r27)))), (Iv kind), (Bo (icmp .eql kind 3)), (Bo (icmp .eql kind 0)), (Bo (icmp .eql kind 1)), (Bo (icmp .eql kind 2)), (Bo (icmp .eql kind 3)), (u12 29), (.slice p_nums L_nums.length q_nums), (Iv (k : Int)), (Pt b76 o77), (u12 33), (u12 34), (u12 35), (u12 36), (u12 37), (u12 38), (u12 39), (u12 40), (u12 41), (u12 42), (u12 43), (u12 44)]) _
        refine q_is rfl rfl (does_load (u := (Fl r80)) (ev rfl) Try.isAgg62 (Cells.at hc79 0 rfl)) (by dsimp only [List.set]; try rfl) ?_
        refine q_is rfl rfl (does_fcmp (.inr (.inr (.inl rfl))) (ev rfl) (ev rfl)) (by dsimp only [List.set]; try rfl) ?_
        refine wpList_nil (hK75 _ _ ?_)
        refine wp_cond_split (t := fcmp .lss (ford .f32 (cf .f32 r80) (cf .f32 0))) (ev rfl) (fun c82 => ?_) (fun c82 => ?_)
        · have c82' := c82
          refine wp_seq_k fun K83 hK83 => ?_
          refine wp_region_lit ?_
          refine q_is rfl rfl (does_assign (u := (Bo false)) (ev rfl)) (by dsimp only [List.set]; try rfl) ?_
          refine wpList_nil (hK83 _ _ ?_)
          refine wp_ret ?_
          dsimp only [Exit.then, Exit.inBlock]
          refine ret_val (v := (Bo false)) (res_T rfl (slot rfl)) X31 ?_
          try simp only [hel1, h28, h81] at c7 c19 c32 c38 c50 c62 c74 c82
          have x84 : (nodeNums kind L_nums) = false := by first | exact nodeNums_len (by omega) | exact nodeNums_bad (by assumption) (by simp_all [numOk, rlSg, inI, icmp, lssF, leqF]) | exact nodeNums_ok (by omega) hal (by omega)
          exact (by first | rfl | rw [x84])
        have c82' := c82
        refine wp_skip (hK20 _ _ ?_)
        refine wp_region_lit ?_
        refine q_is rfl rfl (does_move (u := (Iv (k : Int))) (ev rfl)) (by dsimp only [List.set]; try rfl) ?_
        refine q_is rfl rfl (does_iarith (p := (k : Int)) (q := 1) (r := (k : Int) + 1) (ev rfl) (ev rfl) (.inl ⟨rfl, (in_i64 (by omega) (by omega)).symm⟩)) (by dsimp only [List.set]; try rfl) ?_
        refine q_is rfl rfl (does_assign (u := (Iv ((k : Int) + 1))) (ev rfl)) (by dsimp only [List.set]; try rfl) ?_
        refine wpList_nil ?_
        refine ⟨k + 1, ⟨fun t => (([(Iv kind), (.slice p_nums L_nums.length q_nums), Ud, Ud, (u12 4), (Iv ((k : Int) + 1)), (.slice p_nums L_nums.length q_nums), (Iv (L_nums.length : Int)), (Iv kind), (Iv (rlNum kind)), (Bo (icmp .neq (L_nums.length : Int) (rlNum kind))), (Iv (k : Int)), (.slice p_nums L_nums.length q_nums), (Iv (L_nums.length : Int)), (Bo (icmp .lss (k : Int) (L_nums.length : Int))), (Iv (k : Int)), (Iv ((k : Int) + 1)), (.slice p_nums L_nums.length q_nums), (Iv (k : Int)), (Pt b23 o24), (Fl r27), (Bo (finF (cf .f32 r27))), (Bo (!(finF (cf .f32 r27)))), (Iv kind), (Bo (icmp .eql kind 3)), (Bo (icmp .eql kind 0)), (Bo (icmp .eql kind 1)), (Bo (icmp .eql kind 2)), (Bo (icmp .eql kind 3)), (u12 29), (.slice p_nums L_nums.length q_nums), (Iv (k : Int)), (Pt b76 o77), (Fl r80), (Bo (fcmp .lss (ford .f32 (cf .f32 r80) (cf .f32 0)))), (u12 35), (u12 36), (u12 37), (u12 38), (u12 39), (u12 40), (u12 41), (u12 42), (u12 43), (u12 44)] : List Value)[t]?).getD undef, ?_, (Ext.gr E14 E29), ?_⟩, ?_⟩
        · first | rfl | (simp only [Nat.cast_add, Nat.cast_one, Int.natCast_add, Int.natCast_one]; rfl)
        · exact ⟨by omega, AllTo.step hal (by assumption) (by simp_all [numOk, rlSg, inI, icmp, lssF, leqF])⟩
        · omega
      have c74' := c74
      (try simp only [icmp, Bool.and_eq_true, Bool.or_eq_true, Bool.and_eq_false_iff, Bool.or_eq_false_iff, Bool.not_eq_true', Bool.not_eq_false', decide_eq_true_eq, decide_eq_false_iff_not, beq_iff_eq, bne_iff_ne, beq_eq_false_iff_ne, bne_eq_false_iff_eq] at c74')
      refine wp_region_lit ?_
      refine q_is rfl rfl (does_icmp (p := kind) (q := 16) (.inl rfl) (ev rfl) (ev rfl)) (by dsimp only [List.set]; try rfl) ?_
      refine q_is rfl rfl (does_assign (u := (Bo (icmp .eql kind 16))) (ev rfl)) (by dsimp only [List.set]; try rfl) ?_
      refine wpList_nil (hK36 _ _ ?_)
      refine wp_cond_split (t := icmp .eql kind 16) (ev rfl) (fun c85 => ?_) (fun c85 => ?_)
      · have c85' := c85
        (try simp only [icmp, Bool.and_eq_true, Bool.or_eq_true, Bool.and_eq_false_iff, Bool.or_eq_false_iff, Bool.not_eq_true', Bool.not_eq_false', decide_eq_true_eq, decide_eq_false_iff_not, beq_iff_eq, bne_iff_ne, beq_eq_false_iff_ne, bne_eq_false_iff_eq] at c85')
        refine wp_seq_k fun K86 hK86 => ?_
        refine wp_region_lit ?_
        refine q_is rfl rfl (does_move (u := (.slice p_nums L_nums.length q_nums)) (ev rfl)) (by dsimp only [List.set]; try rfl) ?_
        refine q_is rfl rfl (does_move (u := (Iv (k : Int))) (ev rfl)) (by dsimp only [List.set]; try rfl) ?_
        refine seqd rfl rfl (does_indexSl (R := RF) (i := (k : Int)) (xs := L_nums) (e := el1) Try.underlying22 Try.sizeOf62 (ev rfl) (ev rfl) (Sl.ext hv_nums RF.mono X31) (by omega) hel1) ?_; rintro _ w30 ⟨b87, o88, _, rfl, hc90, ⟨r91, rfl, h92⟩, rfl⟩
        show wpList _ _ _ _ (fr [(Iv kind), (.slice p_nums L_nums.length q_nums), Ud, Ud, (u12 4), (Iv (k : Int)), (.slice p_nums L_nums.length q_nums), (Iv (L_nums.length : Int)), (Iv kind), (Iv (rlNum kind)), (Bo (icmp .neq (L_nums.length : Int) (rlNum kind))), (Iv (k : Int)), (.slice p_nums L_nums.length q_nums), (Iv (L_nums.length : Int)), (Bo (icmp .lss (k : Int) (L_nums.length : Int))), (u12 15), (u12 16), (.slice p_nums L_nums.length q_nums), (Iv (k : Int)), (Pt b23 o24), (Fl r27), (Bo (finF (cf .f32 r27))), (Bo (!(finF (cf .f32 r27)))), (Iv kind), (Bo (icmp .eql kind 16)), (Bo (icmp .eql kind 0)), (Bo (icmp .eql kind 1)), (Bo (icmp .eql kind 2)), (Bo (icmp .eql kind 3)), (Bo (icmp .eql kind 16)), (.slice p_nums L_nums.length q_nums), (Iv (k : Int)), (Pt b87 o88), (u12 33), (u12 34), (u12 35), (u12 36), (u12 37), (u12 38), (u12 39), (u12 40), (u12 41), (u12 42), (u12 43), (u12 44)]) _
        refine q_is rfl rfl (does_load (u := (Fl r91)) (ev rfl) Try.isAgg62 (Cells.at hc90 0 rfl)) (by dsimp only [List.set]; try rfl) ?_
        refine q_is rfl rfl (does_fcmp (.inr (.inr (.inl rfl))) (ev rfl) (ev rfl)) (by dsimp only [List.set]; try rfl) ?_
        refine wpList_nil (hK86 _ _ ?_)
        refine wp_cond_split (t := fcmp .lss (ford .f32 (cf .f32 r91) (cf .f32 0))) (ev rfl) (fun c93 => ?_) (fun c93 => ?_)
        · have c93' := c93
          refine wp_seq_k fun K94 hK94 => ?_
          refine wp_region_lit ?_
          refine q_is rfl rfl (does_assign (u := (Bo false)) (ev rfl)) (by dsimp only [List.set]; try rfl) ?_
          refine wpList_nil (hK94 _ _ ?_)
          refine wp_ret ?_
          dsimp only [Exit.then, Exit.inBlock]
          refine ret_val (v := (Bo false)) (res_T rfl (slot rfl)) X31 ?_
          try simp only [hel1, h28, h92] at c7 c19 c32 c38 c50 c62 c74 c85 c93
          have x95 : (nodeNums kind L_nums) = false := by first | exact nodeNums_len (by omega) | exact nodeNums_bad (by assumption) (by simp_all [numOk, rlSg, inI, icmp, lssF, leqF]) | exact nodeNums_ok (by omega) hal (by omega)
          exact (by first | rfl | rw [x95])
        have c93' := c93
        refine wp_skip (hK20 _ _ ?_)
        refine wp_region_lit ?_
        refine q_is rfl rfl (does_move (u := (Iv (k : Int))) (ev rfl)) (by dsimp only [List.set]; try rfl) ?_
        refine q_is rfl rfl (does_iarith (p := (k : Int)) (q := 1) (r := (k : Int) + 1) (ev rfl) (ev rfl) (.inl ⟨rfl, (in_i64 (by omega) (by omega)).symm⟩)) (by dsimp only [List.set]; try rfl) ?_
        refine q_is rfl rfl (does_assign (u := (Iv ((k : Int) + 1))) (ev rfl)) (by dsimp only [List.set]; try rfl) ?_
        refine wpList_nil ?_
        refine ⟨k + 1, ⟨fun t => (([(Iv kind), (.slice p_nums L_nums.length q_nums), Ud, Ud, (u12 4), (Iv ((k : Int) + 1)), (.slice p_nums L_nums.length q_nums), (Iv (L_nums.length : Int)), (Iv kind), (Iv (rlNum kind)), (Bo (icmp .neq (L_nums.length : Int) (rlNum kind))), (Iv (k : Int)), (.slice p_nums L_nums.length q_nums), (Iv (L_nums.length : Int)), (Bo (icmp .lss (k : Int) (L_nums.length : Int))), (Iv (k : Int)), (Iv ((k : Int) + 1)), (.slice p_nums L_nums.length q_nums), (Iv (k : Int)), (Pt b23 o24), (Fl r27), (Bo (finF (cf .f32 r27))), (Bo (!(finF (cf .f32 r27)))), (Iv kind), (Bo (icmp .eql kind 16)), (Bo (icmp .eql kind 0)), (Bo (icmp .eql kind 1)), (Bo (icmp .eql kind 2)), (Bo (icmp .eql kind 3)), (Bo (icmp .eql kind 16)), (.slice p_nums L_nums.length q_nums), (Iv (k : Int)), (Pt b87 o88), (Fl r91), (Bo (fcmp .lss (ford .f32 (cf .f32 r91) (cf .f32 0)))), (u12 35), (u12 36), (u12 37), (u12 38), (u12 39), (u12 40), (u12 41), (u12 42), (u12 43), (u12 44)] : List Value)[t]?).getD undef, ?_, (Ext.gr E14 E29), ?_⟩, ?_⟩
        · first | rfl | (simp only [Nat.cast_add, Nat.cast_one, Int.natCast_add, Int.natCast_one]; rfl)
        · exact ⟨by omega, AllTo.step hal (by assumption) (by simp_all [numOk, rlSg, inI, icmp, lssF, leqF])⟩
        · omega
      have c85' := c85
      (try simp only [icmp, Bool.and_eq_true, Bool.or_eq_true, Bool.and_eq_false_iff, Bool.or_eq_false_iff, Bool.not_eq_true', Bool.not_eq_false', decide_eq_true_eq, decide_eq_false_iff_not, beq_iff_eq, bne_iff_ne, beq_eq_false_iff_ne, bne_eq_false_iff_eq] at c85')
      refine wp_seq_k fun K96 hK96 => ?_
      refine wp_seq_k fun K97 hK97 => ?_
      refine wp_region_lit ?_
      refine q_is rfl rfl (does_icmp (p := kind) (q := 8) (.inl rfl) (ev rfl) (ev rfl)) (by dsimp only [List.set]; try rfl) ?_
      refine q_is rfl rfl (does_assign (u := (Bo (icmp .eql kind 8))) (ev rfl)) (by dsimp only [List.set]; try rfl) ?_
      refine wpList_nil (hK97 _ _ ?_)
      refine wp_cond_split (t := icmp .eql kind 8) (ev rfl) (fun c98 => ?_) (fun c98 => ?_)
      · have c98' := c98
        (try simp only [icmp, Bool.and_eq_true, Bool.or_eq_true, Bool.and_eq_false_iff, Bool.or_eq_false_iff, Bool.not_eq_true', Bool.not_eq_false', decide_eq_true_eq, decide_eq_false_iff_not, beq_iff_eq, bne_iff_ne, beq_eq_false_iff_ne, bne_eq_false_iff_eq] at c98')
        refine wp_skip (hK96 _ _ ?_)
        refine wp_cond_true ((ev (rfl : evl _ _ = .bool (icmp .eql kind 8))).trans (congrArg Value.bool c98)) ?_
        refine wp_seq_k fun K99 hK99 => ?_
        refine wp_region_lit ?_
        refine q_is rfl rfl (does_move (u := (.slice p_nums L_nums.length q_nums)) (ev rfl)) (by dsimp only [List.set]; try rfl) ?_
        refine q_is rfl rfl (does_move (u := (Iv (k : Int))) (ev rfl)) (by dsimp only [List.set]; try rfl) ?_
        refine seqd rfl rfl (does_indexSl (R := RF) (i := (k : Int)) (xs := L_nums) (e := el1) Try.underlying22 Try.sizeOf62 (ev rfl) (ev rfl) (Sl.ext hv_nums RF.mono X31) (by omega) hel1) ?_; rintro _ w30 ⟨b100, o101, _, rfl, hc103, ⟨r104, rfl, h105⟩, rfl⟩
        show wpList _ _ _ _ (fr [(Iv kind), (.slice p_nums L_nums.length q_nums), Ud, Ud, (u12 4), (Iv (k : Int)), (.slice p_nums L_nums.length q_nums), (Iv (L_nums.length : Int)), (Iv kind), (Iv (rlNum kind)), (Bo (icmp .neq (L_nums.length : Int) (rlNum kind))), (Iv (k : Int)), (.slice p_nums L_nums.length q_nums), (Iv (L_nums.length : Int)), (Bo (icmp .lss (k : Int) (L_nums.length : Int))), (u12 15), (u12 16), (.slice p_nums L_nums.length q_nums), (Iv (k : Int)), (Pt b23 o24), (Fl r27), (Bo (finF (cf .f32 r27))), (Bo (!(finF (cf .f32 r27)))), (Iv kind), (Bo (icmp .eql kind 16)), (Bo (icmp .eql kind 0)), (Bo (icmp .eql kind 1)), (Bo (icmp .eql kind 2)), (Bo (icmp .eql kind 3)), (Bo (icmp .eql kind 16)), (u12 30), (u12 31), (u12 32), (u12 33), (u12 34), (Bo (icmp .eql kind 8)), (Bo (icmp .eql kind 8)), (u12 37), (u12 38), (u12 39), (.slice p_nums L_nums.length q_nums), (Iv (k : Int)), (Pt b100 o101), (u12 43), (u12 44)]) _
        refine q_is rfl rfl (does_load (u := (Fl r104)) (ev rfl) Try.isAgg62 (Cells.at hc103 0 rfl)) (by dsimp only [List.set]; try rfl) ?_
        refine q_is rfl rfl (does_fcmp (.inr (.inr (.inr (.inl rfl)))) (ev rfl) (ev rfl)) (by dsimp only [List.set]; try rfl) ?_
        refine wpList_nil (hK99 _ _ ?_)
        refine wp_cond_split (t := fcmp .leq (ford .f32 (cf .f32 r104) (cf .f32 0))) (ev rfl) (fun c106 => ?_) (fun c106 => ?_)
        · have c106' := c106
          refine wp_seq_k fun K107 hK107 => ?_
          refine wp_region_lit ?_
          refine q_is rfl rfl (does_assign (u := (Bo false)) (ev rfl)) (by dsimp only [List.set]; try rfl) ?_
          refine wpList_nil (hK107 _ _ ?_)
          refine wp_ret ?_
          dsimp only [Exit.then, Exit.inBlock]
          refine ret_val (v := (Bo false)) (res_T rfl (slot rfl)) X31 ?_
          try simp only [hel1, h28, h105] at c7 c19 c32 c38 c50 c62 c74 c85 c98 c106
          have x108 : (nodeNums kind L_nums) = false := by first | exact nodeNums_len (by omega) | exact nodeNums_bad (by assumption) (by simp_all [numOk, rlSg, inI, icmp, lssF, leqF]) | exact nodeNums_ok (by omega) hal (by omega)
          exact (by first | rfl | rw [x108])
        have c106' := c106
        refine wp_skip (hK20 _ _ ?_)
        refine wp_region_lit ?_
        refine q_is rfl rfl (does_move (u := (Iv (k : Int))) (ev rfl)) (by dsimp only [List.set]; try rfl) ?_
        refine q_is rfl rfl (does_iarith (p := (k : Int)) (q := 1) (r := (k : Int) + 1) (ev rfl) (ev rfl) (.inl ⟨rfl, (in_i64 (by omega) (by omega)).symm⟩)) (by dsimp only [List.set]; try rfl) ?_
        refine q_is rfl rfl (does_assign (u := (Iv ((k : Int) + 1))) (ev rfl)) (by dsimp only [List.set]; try rfl) ?_
        refine wpList_nil ?_
        refine ⟨k + 1, ⟨fun t => (([(Iv kind), (.slice p_nums L_nums.length q_nums), Ud, Ud, (u12 4), (Iv ((k : Int) + 1)), (.slice p_nums L_nums.length q_nums), (Iv (L_nums.length : Int)), (Iv kind), (Iv (rlNum kind)), (Bo (icmp .neq (L_nums.length : Int) (rlNum kind))), (Iv (k : Int)), (.slice p_nums L_nums.length q_nums), (Iv (L_nums.length : Int)), (Bo (icmp .lss (k : Int) (L_nums.length : Int))), (Iv (k : Int)), (Iv ((k : Int) + 1)), (.slice p_nums L_nums.length q_nums), (Iv (k : Int)), (Pt b23 o24), (Fl r27), (Bo (finF (cf .f32 r27))), (Bo (!(finF (cf .f32 r27)))), (Iv kind), (Bo (icmp .eql kind 16)), (Bo (icmp .eql kind 0)), (Bo (icmp .eql kind 1)), (Bo (icmp .eql kind 2)), (Bo (icmp .eql kind 3)), (Bo (icmp .eql kind 16)), (u12 30), (u12 31), (u12 32), (u12 33), (u12 34), (Bo (icmp .eql kind 8)), (Bo (icmp .eql kind 8)), (u12 37), (u12 38), (u12 39), (.slice p_nums L_nums.length q_nums), (Iv (k : Int)), (Pt b100 o101), (Fl r104), (Bo (fcmp .leq (ford .f32 (cf .f32 r104) (cf .f32 0))))] : List Value)[t]?).getD undef, ?_, (Ext.gr E14 E29), ?_⟩, ?_⟩
        · first | rfl | (simp only [Nat.cast_add, Nat.cast_one, Int.natCast_add, Int.natCast_one]; rfl)
        · exact ⟨by omega, AllTo.step hal (by assumption) (by simp_all [numOk, rlSg, inI, icmp, lssF, leqF])⟩
        · omega
      have c98' := c98
      (try simp only [icmp, Bool.and_eq_true, Bool.or_eq_true, Bool.and_eq_false_iff, Bool.or_eq_false_iff, Bool.not_eq_true', Bool.not_eq_false', decide_eq_true_eq, decide_eq_false_iff_not, beq_iff_eq, bne_iff_ne, beq_eq_false_iff_ne, bne_eq_false_iff_eq] at c98')
      refine wp_seq_k fun K109 hK109 => ?_
      refine wp_region_lit ?_
      refine q_is rfl rfl (does_icmp (p := kind) (q := 10) (.inl rfl) (ev rfl) (ev rfl)) (by dsimp only [List.set]; try rfl) ?_
      refine q_is rfl rfl (does_assign (u := (Bo (icmp .eql kind 10))) (ev rfl)) (by dsimp only [List.set]; try rfl) ?_
      refine wpList_nil (hK109 _ _ ?_)
      refine wp_cond_split (t := icmp .eql kind 10) (ev rfl) (fun c110 => ?_) (fun c110 => ?_)
      · have c110' := c110
        (try simp only [icmp, Bool.and_eq_true, Bool.or_eq_true, Bool.and_eq_false_iff, Bool.or_eq_false_iff, Bool.not_eq_true', Bool.not_eq_false', decide_eq_true_eq, decide_eq_false_iff_not, beq_iff_eq, bne_iff_ne, beq_eq_false_iff_ne, bne_eq_false_iff_eq] at c110')
        refine wp_skip (hK96 _ _ ?_)
        refine wp_cond_true ((ev (rfl : evl _ _ = .bool (icmp .eql kind 10))).trans (congrArg Value.bool c110)) ?_
        refine wp_seq_k fun K111 hK111 => ?_
        refine wp_region_lit ?_
        refine q_is rfl rfl (does_move (u := (.slice p_nums L_nums.length q_nums)) (ev rfl)) (by dsimp only [List.set]; try rfl) ?_
        refine q_is rfl rfl (does_move (u := (Iv (k : Int))) (ev rfl)) (by dsimp only [List.set]; try rfl) ?_
        refine seqd rfl rfl (does_indexSl (R := RF) (i := (k : Int)) (xs := L_nums) (e := el1) Try.underlying22 Try.sizeOf62 (ev rfl) (ev rfl) (Sl.ext hv_nums RF.mono X31) (by omega) hel1) ?_; rintro _ w30 ⟨b112, o113, _, rfl, hc115, ⟨r116, rfl, h117⟩, rfl⟩
        show wpList _ _ _ _ (fr [(Iv kind), (.slice p_nums L_nums.length q_nums), Ud, Ud, (u12 4), (Iv (k : Int)), (.slice p_nums L_nums.length q_nums), (Iv (L_nums.length : Int)), (Iv kind), (Iv (rlNum kind)), (Bo (icmp .neq (L_nums.length : Int) (rlNum kind))), (Iv (k : Int)), (.slice p_nums L_nums.length q_nums), (Iv (L_nums.length : Int)), (Bo (icmp .lss (k : Int) (L_nums.length : Int))), (u12 15), (u12 16), (.slice p_nums L_nums.length q_nums), (Iv (k : Int)), (Pt b23 o24), (Fl r27), (Bo (finF (cf .f32 r27))), (Bo (!(finF (cf .f32 r27)))), (Iv kind), (Bo (icmp .eql kind 16)), (Bo (icmp .eql kind 0)), (Bo (icmp .eql kind 1)), (Bo (icmp .eql kind 2)), (Bo (icmp .eql kind 3)), (Bo (icmp .eql kind 16)), (u12 30), (u12 31), (u12 32), (u12 33), (u12 34), (Bo (icmp .eql kind 10)), (Bo (icmp .eql kind 8)), (Bo (icmp .eql kind 10)), (u12 38), (u12 39), (.slice p_nums L_nums.length q_nums), (Iv (k : Int)), (Pt b112 o113), (u12 43), (u12 44)]) _
        refine q_is rfl rfl (does_load (u := (Fl r116)) (ev rfl) Try.isAgg62 (Cells.at hc115 0 rfl)) (by dsimp only [List.set]; try rfl) ?_
        refine q_is rfl rfl (does_fcmp (.inr (.inr (.inr (.inl rfl)))) (ev rfl) (ev rfl)) (by dsimp only [List.set]; try rfl) ?_
        refine wpList_nil (hK111 _ _ ?_)
        refine wp_cond_split (t := fcmp .leq (ford .f32 (cf .f32 r116) (cf .f32 0))) (ev rfl) (fun c118 => ?_) (fun c118 => ?_)
        · have c118' := c118
          refine wp_seq_k fun K119 hK119 => ?_
          refine wp_region_lit ?_
          refine q_is rfl rfl (does_assign (u := (Bo false)) (ev rfl)) (by dsimp only [List.set]; try rfl) ?_
          refine wpList_nil (hK119 _ _ ?_)
          refine wp_ret ?_
          dsimp only [Exit.then, Exit.inBlock]
          refine ret_val (v := (Bo false)) (res_T rfl (slot rfl)) X31 ?_
          try simp only [hel1, h28, h117] at c7 c19 c32 c38 c50 c62 c74 c85 c98 c110 c118
          have x120 : (nodeNums kind L_nums) = false := by first | exact nodeNums_len (by omega) | exact nodeNums_bad (by assumption) (by simp_all [numOk, rlSg, inI, icmp, lssF, leqF]) | exact nodeNums_ok (by omega) hal (by omega)
          exact (by first | rfl | rw [x120])
        have c118' := c118
        refine wp_skip (hK20 _ _ ?_)
        refine wp_region_lit ?_
        refine q_is rfl rfl (does_move (u := (Iv (k : Int))) (ev rfl)) (by dsimp only [List.set]; try rfl) ?_
        refine q_is rfl rfl (does_iarith (p := (k : Int)) (q := 1) (r := (k : Int) + 1) (ev rfl) (ev rfl) (.inl ⟨rfl, (in_i64 (by omega) (by omega)).symm⟩)) (by dsimp only [List.set]; try rfl) ?_
        refine q_is rfl rfl (does_assign (u := (Iv ((k : Int) + 1))) (ev rfl)) (by dsimp only [List.set]; try rfl) ?_
        refine wpList_nil ?_
        refine ⟨k + 1, ⟨fun t => (([(Iv kind), (.slice p_nums L_nums.length q_nums), Ud, Ud, (u12 4), (Iv ((k : Int) + 1)), (.slice p_nums L_nums.length q_nums), (Iv (L_nums.length : Int)), (Iv kind), (Iv (rlNum kind)), (Bo (icmp .neq (L_nums.length : Int) (rlNum kind))), (Iv (k : Int)), (.slice p_nums L_nums.length q_nums), (Iv (L_nums.length : Int)), (Bo (icmp .lss (k : Int) (L_nums.length : Int))), (Iv (k : Int)), (Iv ((k : Int) + 1)), (.slice p_nums L_nums.length q_nums), (Iv (k : Int)), (Pt b23 o24), (Fl r27), (Bo (finF (cf .f32 r27))), (Bo (!(finF (cf .f32 r27)))), (Iv kind), (Bo (icmp .eql kind 16)), (Bo (icmp .eql kind 0)), (Bo (icmp .eql kind 1)), (Bo (icmp .eql kind 2)), (Bo (icmp .eql kind 3)), (Bo (icmp .eql kind 16)), (u12 30), (u12 31), (u12 32), (u12 33), (u12 34), (Bo (icmp .eql kind 10)), (Bo (icmp .eql kind 8)), (Bo (icmp .eql kind 10)), (u12 38), (u12 39), (.slice p_nums L_nums.length q_nums), (Iv (k : Int)), (Pt b112 o113), (Fl r116), (Bo (fcmp .leq (ford .f32 (cf .f32 r116) (cf .f32 0))))] : List Value)[t]?).getD undef, ?_, (Ext.gr E14 E29), ?_⟩, ?_⟩
        · first | rfl | (simp only [Nat.cast_add, Nat.cast_one, Int.natCast_add, Int.natCast_one]; rfl)
        · exact ⟨by omega, AllTo.step hal (by assumption) (by simp_all [numOk, rlSg, inI, icmp, lssF, leqF])⟩
        · omega
      have c110' := c110
      (try simp only [icmp, Bool.and_eq_true, Bool.or_eq_true, Bool.and_eq_false_iff, Bool.or_eq_false_iff, Bool.not_eq_true', Bool.not_eq_false', decide_eq_true_eq, decide_eq_false_iff_not, beq_iff_eq, bne_iff_ne, beq_eq_false_iff_ne, bne_eq_false_iff_eq] at c110')
      refine wp_seq_k fun K121 hK121 => ?_
      refine wp_region_lit ?_
      refine q_is rfl rfl (does_icmp (p := kind) (q := 11) (.inl rfl) (ev rfl) (ev rfl)) (by dsimp only [List.set]; try rfl) ?_
      refine q_is rfl rfl (does_assign (u := (Bo (icmp .eql kind 11))) (ev rfl)) (by dsimp only [List.set]; try rfl) ?_
      refine wpList_nil (hK121 _ _ ?_)
      refine wp_cond_split (t := icmp .eql kind 11) (ev rfl) (fun c122 => ?_) (fun c122 => ?_)
      · have c122' := c122
        (try simp only [icmp, Bool.and_eq_true, Bool.or_eq_true, Bool.and_eq_false_iff, Bool.or_eq_false_iff, Bool.not_eq_true', Bool.not_eq_false', decide_eq_true_eq, decide_eq_false_iff_not, beq_iff_eq, bne_iff_ne, beq_eq_false_iff_ne, bne_eq_false_iff_eq] at c122')
        refine wp_skip (hK96 _ _ ?_)
        refine wp_cond_true ((ev (rfl : evl _ _ = .bool (icmp .eql kind 11))).trans (congrArg Value.bool c122)) ?_
        refine wp_seq_k fun K123 hK123 => ?_
        refine wp_region_lit ?_
        refine q_is rfl rfl (does_move (u := (.slice p_nums L_nums.length q_nums)) (ev rfl)) (by dsimp only [List.set]; try rfl) ?_
        refine q_is rfl rfl (does_move (u := (Iv (k : Int))) (ev rfl)) (by dsimp only [List.set]; try rfl) ?_
        refine seqd rfl rfl (does_indexSl (R := RF) (i := (k : Int)) (xs := L_nums) (e := el1) Try.underlying22 Try.sizeOf62 (ev rfl) (ev rfl) (Sl.ext hv_nums RF.mono X31) (by omega) hel1) ?_; rintro _ w30 ⟨b124, o125, _, rfl, hc127, ⟨r128, rfl, h129⟩, rfl⟩
        show wpList _ _ _ _ (fr [(Iv kind), (.slice p_nums L_nums.length q_nums), Ud, Ud, (u12 4), (Iv (k : Int)), (.slice p_nums L_nums.length q_nums), (Iv (L_nums.length : Int)), (Iv kind), (Iv (rlNum kind)), (Bo (icmp .neq (L_nums.length : Int) (rlNum kind))), (Iv (k : Int)), (.slice p_nums L_nums.length q_nums), (Iv (L_nums.length : Int)), (Bo (icmp .lss (k : Int) (L_nums.length : Int))), (u12 15), (u12 16), (.slice p_nums L_nums.length q_nums), (Iv (k : Int)), (Pt b23 o24), (Fl r27), (Bo (finF (cf .f32 r27))), (Bo (!(finF (cf .f32 r27)))), (Iv kind), (Bo (icmp .eql kind 16)), (Bo (icmp .eql kind 0)), (Bo (icmp .eql kind 1)), (Bo (icmp .eql kind 2)), (Bo (icmp .eql kind 3)), (Bo (icmp .eql kind 16)), (u12 30), (u12 31), (u12 32), (u12 33), (u12 34), (Bo (icmp .eql kind 11)), (Bo (icmp .eql kind 8)), (Bo (icmp .eql kind 10)), (Bo (icmp .eql kind 11)), (u12 39), (.slice p_nums L_nums.length q_nums), (Iv (k : Int)), (Pt b124 o125), (u12 43), (u12 44)]) _
        refine q_is rfl rfl (does_load (u := (Fl r128)) (ev rfl) Try.isAgg62 (Cells.at hc127 0 rfl)) (by dsimp only [List.set]; try rfl) ?_
        refine q_is rfl rfl (does_fcmp (.inr (.inr (.inr (.inl rfl)))) (ev rfl) (ev rfl)) (by dsimp only [List.set]; try rfl) ?_
        refine wpList_nil (hK123 _ _ ?_)
        refine wp_cond_split (t := fcmp .leq (ford .f32 (cf .f32 r128) (cf .f32 0))) (ev rfl) (fun c130 => ?_) (fun c130 => ?_)
        · have c130' := c130
          refine wp_seq_k fun K131 hK131 => ?_
          refine wp_region_lit ?_
          refine q_is rfl rfl (does_assign (u := (Bo false)) (ev rfl)) (by dsimp only [List.set]; try rfl) ?_
          refine wpList_nil (hK131 _ _ ?_)
          refine wp_ret ?_
          dsimp only [Exit.then, Exit.inBlock]
          refine ret_val (v := (Bo false)) (res_T rfl (slot rfl)) X31 ?_
          try simp only [hel1, h28, h129] at c7 c19 c32 c38 c50 c62 c74 c85 c98 c110 c122 c130
          have x132 : (nodeNums kind L_nums) = false := by first | exact nodeNums_len (by omega) | exact nodeNums_bad (by assumption) (by simp_all [numOk, rlSg, inI, icmp, lssF, leqF]) | exact nodeNums_ok (by omega) hal (by omega)
          exact (by first | rfl | rw [x132])
        have c130' := c130
        refine wp_skip (hK20 _ _ ?_)
        refine wp_region_lit ?_
        refine q_is rfl rfl (does_move (u := (Iv (k : Int))) (ev rfl)) (by dsimp only [List.set]; try rfl) ?_
        refine q_is rfl rfl (does_iarith (p := (k : Int)) (q := 1) (r := (k : Int) + 1) (ev rfl) (ev rfl) (.inl ⟨rfl, (in_i64 (by omega) (by omega)).symm⟩)) (by dsimp only [List.set]; try rfl) ?_
        refine q_is rfl rfl (does_assign (u := (Iv ((k : Int) + 1))) (ev rfl)) (by dsimp only [List.set]; try rfl) ?_
        refine wpList_nil ?_
        refine ⟨k + 1, ⟨fun t => (([(Iv kind), (.slice p_nums L_nums.length q_nums), Ud, Ud, (u12 4), (Iv ((k : Int) + 1)), (.slice p_nums L_nums.length q_nums), (Iv (L_nums.length : Int)), (Iv kind), (Iv (rlNum kind)), (Bo (icmp .neq (L_nums.length : Int) (rlNum kind))), (Iv (k : Int)), (.slice p_nums L_nums.length q_nums), (Iv (L_nums.length : Int)), (Bo (icmp .lss (k : Int) (L_nums.length : Int))), (Iv (k : Int)), (Iv ((k : Int) + 1)), (.slice p_nums L_nums.length q_nums), (Iv (k : Int)), (Pt b23 o24), (Fl r27), (Bo (finF (cf .f32 r27))), (Bo (!(finF (cf .f32 r27)))), (Iv kind), (Bo (icmp .eql kind 16)), (Bo (icmp .eql kind 0)), (Bo (icmp .eql kind 1)), (Bo (icmp .eql kind 2)), (Bo (icmp .eql kind 3)), (Bo (icmp .eql kind 16)), (u12 30), (u12 31), (u12 32), (u12 33), (u12 34), (Bo (icmp .eql kind 11)), (Bo (icmp .eql kind 8)), (Bo (icmp .eql kind 10)), (Bo (icmp .eql kind 11)), (u12 39), (.slice p_nums L_nums.length q_nums), (Iv (k : Int)), (Pt b124 o125), (Fl r128), (Bo (fcmp .leq (ford .f32 (cf .f32 r128) (cf .f32 0))))] : List Value)[t]?).getD undef, ?_, (Ext.gr E14 E29), ?_⟩, ?_⟩
        · first | rfl | (simp only [Nat.cast_add, Nat.cast_one, Int.natCast_add, Int.natCast_one]; rfl)
        · exact ⟨by omega, AllTo.step hal (by assumption) (by simp_all [numOk, rlSg, inI, icmp, lssF, leqF])⟩
        · omega
      have c122' := c122
      (try simp only [icmp, Bool.and_eq_true, Bool.or_eq_true, Bool.and_eq_false_iff, Bool.or_eq_false_iff, Bool.not_eq_true', Bool.not_eq_false', decide_eq_true_eq, decide_eq_false_iff_not, beq_iff_eq, bne_iff_ne, beq_eq_false_iff_ne, bne_eq_false_iff_eq] at c122')
      refine wp_region_lit ?_
      refine q_is rfl rfl (does_icmp (p := kind) (q := 14) (.inl rfl) (ev rfl) (ev rfl)) (by dsimp only [List.set]; try rfl) ?_
      refine q_is rfl rfl (does_assign (u := (Bo (icmp .eql kind 14))) (ev rfl)) (by dsimp only [List.set]; try rfl) ?_
      refine wpList_nil (hK96 _ _ ?_)
      refine wp_cond_split (t := icmp .eql kind 14) (ev rfl) (fun c133 => ?_) (fun c133 => ?_)
      · have c133' := c133
        (try simp only [icmp, Bool.and_eq_true, Bool.or_eq_true, Bool.and_eq_false_iff, Bool.or_eq_false_iff, Bool.not_eq_true', Bool.not_eq_false', decide_eq_true_eq, decide_eq_false_iff_not, beq_iff_eq, bne_iff_ne, beq_eq_false_iff_ne, bne_eq_false_iff_eq] at c133')
        refine wp_seq_k fun K134 hK134 => ?_
        refine wp_region_lit ?_
        refine q_is rfl rfl (does_move (u := (.slice p_nums L_nums.length q_nums)) (ev rfl)) (by dsimp only [List.set]; try rfl) ?_
        refine q_is rfl rfl (does_move (u := (Iv (k : Int))) (ev rfl)) (by dsimp only [List.set]; try rfl) ?_
        refine seqd rfl rfl (does_indexSl (R := RF) (i := (k : Int)) (xs := L_nums) (e := el1) Try.underlying22 Try.sizeOf62 (ev rfl) (ev rfl) (Sl.ext hv_nums RF.mono X31) (by omega) hel1) ?_; rintro _ w30 ⟨b135, o136, _, rfl, hc138, ⟨r139, rfl, h140⟩, rfl⟩
        show wpList _ _ _ _ (fr [(Iv kind), (.slice p_nums L_nums.length q_nums), Ud, Ud, (u12 4), (Iv (k : Int)), (.slice p_nums L_nums.length q_nums), (Iv (L_nums.length : Int)), (Iv kind), (Iv (rlNum kind)), (Bo (icmp .neq (L_nums.length : Int) (rlNum kind))), (Iv (k : Int)), (.slice p_nums L_nums.length q_nums), (Iv (L_nums.length : Int)), (Bo (icmp .lss (k : Int) (L_nums.length : Int))), (u12 15), (u12 16), (.slice p_nums L_nums.length q_nums), (Iv (k : Int)), (Pt b23 o24), (Fl r27), (Bo (finF (cf .f32 r27))), (Bo (!(finF (cf .f32 r27)))), (Iv kind), (Bo (icmp .eql kind 16)), (Bo (icmp .eql kind 0)), (Bo (icmp .eql kind 1)), (Bo (icmp .eql kind 2)), (Bo (icmp .eql kind 3)), (Bo (icmp .eql kind 16)), (u12 30), (u12 31), (u12 32), (u12 33), (u12 34), (Bo (icmp .eql kind 14)), (Bo (icmp .eql kind 8)), (Bo (icmp .eql kind 10)), (Bo (icmp .eql kind 11)), (Bo (icmp .eql kind 14)), (.slice p_nums L_nums.length q_nums), (Iv (k : Int)), (Pt b135 o136), (u12 43), (u12 44)]) _
        refine q_is rfl rfl (does_load (u := (Fl r139)) (ev rfl) Try.isAgg62 (Cells.at hc138 0 rfl)) (by dsimp only [List.set]; try rfl) ?_
        refine q_is rfl rfl (does_fcmp (.inr (.inr (.inr (.inl rfl)))) (ev rfl) (ev rfl)) (by dsimp only [List.set]; try rfl) ?_
        refine wpList_nil (hK134 _ _ ?_)
        refine wp_cond_split (t := fcmp .leq (ford .f32 (cf .f32 r139) (cf .f32 0))) (ev rfl) (fun c141 => ?_) (fun c141 => ?_)
        · have c141' := c141
          refine wp_seq_k fun K142 hK142 => ?_
          refine wp_region_lit ?_
          refine q_is rfl rfl (does_assign (u := (Bo false)) (ev rfl)) (by dsimp only [List.set]; try rfl) ?_
          refine wpList_nil (hK142 _ _ ?_)
          refine wp_ret ?_
          dsimp only [Exit.then, Exit.inBlock]
          refine ret_val (v := (Bo false)) (res_T rfl (slot rfl)) X31 ?_
          try simp only [hel1, h28, h140] at c7 c19 c32 c38 c50 c62 c74 c85 c98 c110 c122 c133 c141
          have x143 : (nodeNums kind L_nums) = false := by first | exact nodeNums_len (by omega) | exact nodeNums_bad (by assumption) (by simp_all [numOk, rlSg, inI, icmp, lssF, leqF]) | exact nodeNums_ok (by omega) hal (by omega)
          exact (by first | rfl | rw [x143])
        have c141' := c141
        refine wp_skip (hK20 _ _ ?_)
        refine wp_region_lit ?_
        refine q_is rfl rfl (does_move (u := (Iv (k : Int))) (ev rfl)) (by dsimp only [List.set]; try rfl) ?_
        refine q_is rfl rfl (does_iarith (p := (k : Int)) (q := 1) (r := (k : Int) + 1) (ev rfl) (ev rfl) (.inl ⟨rfl, (in_i64 (by omega) (by omega)).symm⟩)) (by dsimp only [List.set]; try rfl) ?_
        refine q_is rfl rfl (does_assign (u := (Iv ((k : Int) + 1))) (ev rfl)) (by dsimp only [List.set]; try rfl) ?_
        refine wpList_nil ?_
        refine ⟨k + 1, ⟨fun t => (([(Iv kind), (.slice p_nums L_nums.length q_nums), Ud, Ud, (u12 4), (Iv ((k : Int) + 1)), (.slice p_nums L_nums.length q_nums), (Iv (L_nums.length : Int)), (Iv kind), (Iv (rlNum kind)), (Bo (icmp .neq (L_nums.length : Int) (rlNum kind))), (Iv (k : Int)), (.slice p_nums L_nums.length q_nums), (Iv (L_nums.length : Int)), (Bo (icmp .lss (k : Int) (L_nums.length : Int))), (Iv (k : Int)), (Iv ((k : Int) + 1)), (.slice p_nums L_nums.length q_nums), (Iv (k : Int)), (Pt b23 o24), (Fl r27), (Bo (finF (cf .f32 r27))), (Bo (!(finF (cf .f32 r27)))), (Iv kind), (Bo (icmp .eql kind 16)), (Bo (icmp .eql kind 0)), (Bo (icmp .eql kind 1)), (Bo (icmp .eql kind 2)), (Bo (icmp .eql kind 3)), (Bo (icmp .eql kind 16)), (u12 30), (u12 31), (u12 32), (u12 33), (u12 34), (Bo (icmp .eql kind 14)), (Bo (icmp .eql kind 8)), (Bo (icmp .eql kind 10)), (Bo (icmp .eql kind 11)), (Bo (icmp .eql kind 14)), (.slice p_nums L_nums.length q_nums), (Iv (k : Int)), (Pt b135 o136), (Fl r139), (Bo (fcmp .leq (ford .f32 (cf .f32 r139) (cf .f32 0))))] : List Value)[t]?).getD undef, ?_, (Ext.gr E14 E29), ?_⟩, ?_⟩
        · first | rfl | (simp only [Nat.cast_add, Nat.cast_one, Int.natCast_add, Int.natCast_one]; rfl)
        · exact ⟨by omega, AllTo.step hal (by assumption) (by simp_all [numOk, rlSg, inI, icmp, lssF, leqF])⟩
        · omega
      have c133' := c133
      (try simp only [icmp, Bool.and_eq_true, Bool.or_eq_true, Bool.and_eq_false_iff, Bool.or_eq_false_iff, Bool.not_eq_true', Bool.not_eq_false', decide_eq_true_eq, decide_eq_false_iff_not, beq_iff_eq, bne_iff_ne, beq_eq_false_iff_ne, bne_eq_false_iff_eq] at c133')
      refine wp_skip (hK20 _ _ ?_)
      refine wp_region_lit ?_
      refine q_is rfl rfl (does_move (u := (Iv (k : Int))) (ev rfl)) (by dsimp only [List.set]; try rfl) ?_
      refine q_is rfl rfl (does_iarith (p := (k : Int)) (q := 1) (r := (k : Int) + 1) (ev rfl) (ev rfl) (.inl ⟨rfl, (in_i64 (by omega) (by omega)).symm⟩)) (by dsimp only [List.set]; try rfl) ?_
      refine q_is rfl rfl (does_assign (u := (Iv ((k : Int) + 1))) (ev rfl)) (by dsimp only [List.set]; try rfl) ?_
      refine wpList_nil ?_
      refine ⟨k + 1, ⟨fun t => (([(Iv kind), (.slice p_nums L_nums.length q_nums), Ud, Ud, (u12 4), (Iv ((k : Int) + 1)), (.slice p_nums L_nums.length q_nums), (Iv (L_nums.length : Int)), (Iv kind), (Iv (rlNum kind)), (Bo (icmp .neq (L_nums.length : Int) (rlNum kind))), (Iv (k : Int)), (.slice p_nums L_nums.length q_nums), (Iv (L_nums.length : Int)), (Bo (icmp .lss (k : Int) (L_nums.length : Int))), (Iv (k : Int)), (Iv ((k : Int) + 1)), (.slice p_nums L_nums.length q_nums), (Iv (k : Int)), (Pt b23 o24), (Fl r27), (Bo (finF (cf .f32 r27))), (Bo (!(finF (cf .f32 r27)))), (Iv kind), (Bo (icmp .eql kind 16)), (Bo (icmp .eql kind 0)), (Bo (icmp .eql kind 1)), (Bo (icmp .eql kind 2)), (Bo (icmp .eql kind 3)), (Bo (icmp .eql kind 16)), (u12 30), (u12 31), (u12 32), (u12 33), (u12 34), (Bo (icmp .eql kind 14)), (Bo (icmp .eql kind 8)), (Bo (icmp .eql kind 10)), (Bo (icmp .eql kind 11)), (Bo (icmp .eql kind 14)), (u12 40), (u12 41), (u12 42), (u12 43), (u12 44)] : List Value)[t]?).getD undef, ?_, (Ext.gr E14 E29), ?_⟩, ?_⟩
      · first | rfl | (simp only [Nat.cast_add, Nat.cast_one, Int.natCast_add, Int.natCast_one]; rfl)
      · exact ⟨by omega, AllTo.step hal (by assumption) (by simp_all [numOk, rlSg, inI, icmp, lssF, leqF])⟩
      · omega
    have c19' := c19
    (try simp only [icmp, Bool.and_eq_true, Bool.or_eq_true, Bool.and_eq_false_iff, Bool.or_eq_false_iff, Bool.not_eq_true', Bool.not_eq_false', decide_eq_true_eq, decide_eq_false_iff_not, beq_iff_eq, bne_iff_ne, beq_eq_false_iff_ne, bne_eq_false_iff_eq] at c19')
    refine wp_exit ?_
    refine hK10 _ _ ?_
    refine wp_seq_k fun K144 hK144 => ?_
    refine wp_region_lit ?_
    refine q_is rfl rfl (does_assign (u := (Bo true)) (ev rfl)) (by dsimp only [List.set]; try rfl) ?_
    refine wpList_nil (hK144 _ _ ?_)
    refine wp_ret ?_
    refine ret_val (v := (Bo true)) (res_T rfl (slot rfl)) X16 ?_
    have x145 : (nodeNums kind L_nums) = true := by first | exact nodeNums_len (by omega) | exact nodeNums_bad (by assumption) (by simp_all [numOk, rlSg, inI, icmp, lssF, leqF]) | exact nodeNums_ok (by omega) hal (by omega)
    exact (by first | rfl | rw [x145])

/- spec.l02Axis -/
theorem c_spec_l02Axis (kind : Int) (w : World) : Gives Try.prog 134 #[(Iv kind)] w (fun v w' => v = (Bo (rlAx kind))) := by
  refine enter [(Iv kind), Ud, Ud, Ud, Ud] Try.func134 rfl Try.ntmps134 rfl ?_
  refine wp_seq_k fun K1 hK1 => ?_
  refine wp_region_lit ?_
  refine q_is (l' := [(Iv kind), Ud, (Bo false), Ud, Ud]) rfl rfl (does_assign (u := (Bo false)) (ev rfl)) rfl ?_
  refine wpList_nil (hK1 _ _ ?_)
  refine wp_seq_k fun K2 hK2 => ?_
  refine wp_region_lit ?_
  refine q_is (l' := [(Iv kind), Ud, (Bo false), (Iv kind), Ud]) rfl rfl (does_move (u := (Iv kind)) (ev rfl)) rfl ?_
  refine seqd rfl rfl (does_call (args := #[(Iv kind), (Iv 12), (Iv 14)]) cal97 (evs rfl) (c_spec_l00In kind 12 14 _)) ?_; rintro _ w4 ⟨E3, rfl⟩
  have X5 := Ext.gr (Ext.refl w) E3
  show wpList _ _ _ _ (fr [(Iv kind), Ud, (Bo false), (Iv kind), (Bo (inI kind 12 14))]) _
  refine q_is (l' := [(Iv kind), Ud, (Bo (inI kind 12 14)), (Iv kind), (Bo (inI kind 12 14))]) rfl rfl (does_assign (u := (Bo (inI kind 12 14))) (ev rfl)) rfl ?_
  refine wpList_nil (hK2 _ _ ?_)
  refine wp_ret ?_
  refine ret_val (v := (Bo (inI kind 12 14))) (res_T rfl (slot rfl)) X5 ?_
  have x6 : (rlAx kind) = (inI kind 12 14) := by first | with_reducible rfl | (simp only [rlAx, ptsK]; done) | (simp [rlAx, ptsK]; done) | rfl
  exact (by first | rfl | rw [x6])

/- spec.l05Node -/
theorem c_spec_l05Node (nd_b : Nat) (nd_o : Nat) (nd : List Value) (A_nd : NodeT) (w : World) (hc_nd : Cells w nd_b nd_o nd) (hv_nd : RNodeT w A_nd nd) : Gives Try.prog 132 #[(Pt nd_b nd_o)] w (fun v w' => v = (Bo (nodeOk A_nd))) := by
  obtain ⟨y1, rfl, h2⟩ := hv_nd
  have hs5 := h2; have hs5l := Sl.len h2; obtain ⟨p3, q4, rfl⟩ := Sl.shape h2
  refine enter [(Pt nd_b nd_o), Ud, Ud, Ud, Ud, Ud, Ud, Ud, Ud, Ud, Ud, Ud, Ud, Ud, Ud, Ud, Ud, Ud, Ud, Ud, Ud, Ud, Ud, Ud, Ud, Ud, Ud, Ud, Ud, Ud, Ud, Ud, Ud, Ud, Ud, Ud, Ud, Ud, Ud, Ud, Ud, Ud, Ud] Try.func132 rfl Try.ntmps132 rfl ?_
  refine wp_seq_k fun K6 hK6 => ?_
  refine wp_region_lit ?_
  refine q_is rfl rfl (does_assign (u := (Bo false)) (ev rfl)) (by dsimp only [List.set]; try rfl) ?_
  refine wpList_nil (hK6 _ _ ?_)
  refine wp_seq_k fun K7 hK7 => ?_
  refine wp_seq_k fun K8 hK8 => ?_
  obtain ⟨β1, hβ1⟩ : ∃ b : Bool, b = (nodeNums A_nd.kind A_nd.nums) := ⟨_, rfl⟩
  obtain ⟨β2, hβ2⟩ : ∃ b : Bool, b = ((!(inI A_nd.kind 0 16)) || (!β1)) := ⟨_, rfl⟩
  obtain ⟨β3, hβ3⟩ : ∃ b : Bool, b = (β2 || (icmp .neq A_nd.a 0)) := ⟨_, rfl⟩
  refine region_draw (
    [Fact.pure [] (fun v => v = (Pt nd_b nd_o)),
    Fact.pure [3] (fun v => v = (Pt nd_b nd_o)),
    Fact.pure [4] (fun v => v = (Pt nd_b nd_o)),
    Fact.pure [5] (fun v => v = (Iv A_nd.kind)),
    Fact.pure [6] (fun v => v = (Bo (inI A_nd.kind 0 16))),
    Fact.pure [7] (fun v => v = (Bo (!(inI A_nd.kind 0 16)))),
    Fact.pure [8] (fun v => v = (Bo (!(inI A_nd.kind 0 16)))),
    Fact.pure [9] (fun v => (!(inI A_nd.kind 0 16)) = false → v = (Pt nd_b nd_o)),
    Fact.pure [10, 9] (fun v => (!(inI A_nd.kind 0 16)) = false → v = (Pt nd_b nd_o)),
    Fact.pure [11, 9] (fun v => (!(inI A_nd.kind 0 16)) = false → v = (Pt nd_b nd_o)),
    Fact.pure [12, 9] (fun v => (!(inI A_nd.kind 0 16)) = false → v = (Iv A_nd.kind)),
    Fact.pure [9] (fun v => (!(inI A_nd.kind 0 16)) = false → v = (Pt nd_b nd_o)),
    Fact.pure [14, 9] (fun v => (!(inI A_nd.kind 0 16)) = false → v = (Pt nd_b nd_o)),
    Fact.pure [15, 9] (fun v => (!(inI A_nd.kind 0 16)) = false → v = (Pt nd_b (nd_o + 3))),
    Fact.pure [16, 9] (fun v => (!(inI A_nd.kind 0 16)) = false → v = (.slice p3 A_nd.nums.length q4)),
    Fact.pure [13, 17, 9] (fun v => (!(inI A_nd.kind 0 16)) = false → v = (Bo β1)),
    Fact.pure [18, 9] (fun v => (!(inI A_nd.kind 0 16)) = false → v = (Bo (!β1))),
    Fact.pure [9, 19] (fun v => v = (Bo β2)),
    Fact.pure [20] (fun v => v = (Bo β2)),
    Fact.pure [21] (fun v => β2 = false → v = (Pt nd_b nd_o)),
    Fact.pure [22, 21] (fun v => β2 = false → v = (Pt nd_b nd_o)),
    Fact.pure [23, 21] (fun v => β2 = false → v = (Pt nd_b (nd_o + 1))),
    Fact.pure [24, 21] (fun v => β2 = false → v = (Iv A_nd.a)),
    Fact.pure [25, 21] (fun v => β2 = false → v = (Bo (icmp .neq A_nd.a 0))),
    Fact.pure [21, 26] (fun v => v = (Bo β3))]) mixed (by kernel_rfl) (by intro _ _ d _ _ h; cases d <;> exact h) ?_
  obtain ⟨w9, hw11⟩ : ∃ w', w' = World.drew w := ⟨_, rfl⟩; rw [← hw11]; have E10 : Ext w w9 := by rw [hw11]; exact Ext.draw _
  clear hw11
  have X12 := Ext.gr (Ext.refl w) E10
  refine RW_d _ rfl (fun v => by dsimp only [List.set]; try rfl) (fun u hu hF => ?_) (fun v13 => ?_)
  · clear hF
    refine doesG_un rfl ?_
    refine (does_move (u := (Pt nd_b nd_o)) (ev rfl)).mono ?_; rintro _ _ ⟨rfl, rfl⟩
    exact ⟨rfl, Ext.refl _⟩
  refine RW_d _ rfl (fun v => by dsimp only [List.set]; try rfl) (fun u hu hF => ?_) (fun v14 => ?_)
  · have h3_ : v13 = (Pt nd_b nd_o) := hF.1
    clear hF
    refine doesG_un rfl ?_
    obtain rfl := h3_
    refine (does_nilCheck (ev rfl)).mono ?_; rintro _ _ ⟨rfl, rfl⟩
    exact ⟨rfl, Ext.refl _⟩
  refine RW_d _ rfl (fun v => by dsimp only [List.set]; try rfl) (fun u hu hF => ?_) (fun v15 => ?_)
  · have h4_ : v14 = (Pt nd_b nd_o) := hF.1
    clear hF
    refine doesG_un rfl ?_
    obtain rfl := h4_
    refine (does_fieldAddr (ev rfl) fa27_0).mono ?_; rintro _ _ ⟨rfl, rfl⟩
    exact ⟨rfl, Ext.refl _⟩
  refine RW_d _ rfl (fun v => by dsimp only [List.set]; try rfl) (fun u hu hF => ?_) (fun v16 => ?_)
  · have h5_ : v15 = (Pt nd_b nd_o) := hF.1
    clear hF
    refine doesG_un rfl ?_
    obtain rfl := h5_
    refine (does_load (u := (Iv A_nd.kind)) (ev rfl) Try.isAgg2 (Cells.at ((hc_nd.ext (Ext.gr (Ext.refl w) E10)).ext hu) 0 rfl)).mono ?_; rintro _ _ ⟨rfl, rfl⟩
    exact ⟨rfl, Ext.refl _⟩
  refine RW_d _ rfl (fun v => by dsimp only [List.set]; try rfl) (fun u hu hF => ?_) (fun v17 => ?_)
  · have h6_ : v16 = (Iv A_nd.kind) := hF.1
    clear hF
    refine doesG_un rfl ?_
    obtain rfl := h6_
    refine (does_call (args := #[(Iv A_nd.kind), (Iv 0), (Iv 16)]) cal97 (evs rfl) (c_spec_l00In A_nd.kind 0 16 _)).mono ?_; rintro v u' ⟨hx, hv⟩
    exact ⟨hv, hx⟩
  refine RW_d _ rfl (fun v => by dsimp only [List.set]; try rfl) (fun u hu hF => ?_) (fun v18 => ?_)
  · have h7_ : v17 = (Bo (inI A_nd.kind 0 16)) := hF.1
    clear hF
    refine doesG_un rfl ?_
    obtain rfl := h7_
    refine (does_not (ev rfl)).mono ?_; rintro _ _ ⟨rfl, rfl⟩
    exact ⟨rfl, Ext.refl _⟩
  refine RW_d _ rfl (fun v => by dsimp only [List.set]; try rfl) (fun u hu hF => ?_) (fun v19 => ?_)
  · have h8_ : v18 = (Bo (!(inI A_nd.kind 0 16))) := hF.1
    clear hF
    refine doesG_un rfl ?_
    obtain rfl := h8_
    refine (does_move (u := (Bo (!(inI A_nd.kind 0 16)))) (ev rfl)).mono ?_; rintro _ _ ⟨rfl, rfl⟩
    exact ⟨rfl, Ext.refl _⟩
  refine RW_d _ rfl (fun v => by dsimp only [List.set]; try rfl) (fun u hu hF => ?_) (fun v20 => ?_)
  · have h9_ : v19 = (Bo (!(inI A_nd.kind 0 16))) := hF.1
    clear hF
    obtain rfl := h9_
    refine doesG_g (b := (!(inI A_nd.kind 0 16))) rfl (yld rfl rfl) (fun hg1 => ?_) (fun hc => ⟨fun hg1 => absurd hg1 hc, Ext.refl _⟩)
    refine (does_move (u := (Pt nd_b nd_o)) (ev rfl)).mono ?_; rintro _ _ ⟨rfl, rfl⟩
    exact ⟨fun _ => rfl, Ext.refl _⟩
  refine RW_d _ rfl (fun v => by dsimp only [List.set]; try rfl) (fun u hu hF => ?_) (fun v21 => ?_)
  · have h10_ : (!(inI A_nd.kind 0 16)) = false → v20 = (Pt nd_b nd_o) := hF.1
    have h9_ : v19 = (Bo (!(inI A_nd.kind 0 16))) := hF.2.1
    clear hF
    obtain rfl := h9_
    refine doesG_g (b := (!(inI A_nd.kind 0 16))) rfl (yld rfl rfl) (fun hg1 => ?_) (fun hc => ⟨fun hg1 => absurd hg1 hc, Ext.refl _⟩)
    obtain rfl := h10_ hg1
    refine (does_nilCheck (ev rfl)).mono ?_; rintro _ _ ⟨rfl, rfl⟩
    exact ⟨fun _ => rfl, Ext.refl _⟩
  refine RW_d _ rfl (fun v => by dsimp only [List.set]; try rfl) (fun u hu hF => ?_) (fun v22 => ?_)
  · have h11_ : (!(inI A_nd.kind 0 16)) = false → v21 = (Pt nd_b nd_o) := hF.1
    have h9_ : v19 = (Bo (!(inI A_nd.kind 0 16))) := hF.2.1
    clear hF
    obtain rfl := h9_
    refine doesG_g (b := (!(inI A_nd.kind 0 16))) rfl (yld rfl rfl) (fun hg1 => ?_) (fun hc => ⟨fun hg1 => absurd hg1 hc, Ext.refl _⟩)
    obtain rfl := h11_ hg1
    refine (does_fieldAddr (ev rfl) fa27_0).mono ?_; rintro _ _ ⟨rfl, rfl⟩
    exact ⟨fun _ => rfl, Ext.refl _⟩
  refine RW_d _ rfl (fun v => by dsimp only [List.set]; try rfl) (fun u hu hF => ?_) (fun v23 => ?_)
  · have h12_ : (!(inI A_nd.kind 0 16)) = false → v22 = (Pt nd_b nd_o) := hF.1
    have h9_ : v19 = (Bo (!(inI A_nd.kind 0 16))) := hF.2.1
    clear hF
    obtain rfl := h9_
    refine doesG_g (b := (!(inI A_nd.kind 0 16))) rfl (yld rfl rfl) (fun hg1 => ?_) (fun hc => ⟨fun hg1 => absurd hg1 hc, Ext.refl _⟩)
    obtain rfl := h12_ hg1
    refine (does_load (u := (Iv A_nd.kind)) (ev rfl) Try.isAgg2 (Cells.at ((hc_nd.ext (Ext.gr (Ext.refl w) E10)).ext hu) 0 rfl)).mono ?_; rintro _ _ ⟨rfl, rfl⟩
    exact ⟨fun _ => rfl, Ext.refl _⟩
  refine RW_d _ rfl (fun v => by dsimp only [List.set]; try rfl) (fun u hu hF => ?_) (fun v24 => ?_)
  · have h9_ : v19 = (Bo (!(inI A_nd.kind 0 16))) := hF.1
    clear hF
    obtain rfl := h9_
    refine doesG_g (b := (!(inI A_nd.kind 0 16))) rfl (yld rfl rfl) (fun hg1 => ?_) (fun hc => ⟨fun hg1 => absurd hg1 hc, Ext.refl _⟩)
    refine (does_move (u := (Pt nd_b nd_o)) (ev rfl)).mono ?_; rintro _ _ ⟨rfl, rfl⟩
    exact ⟨fun _ => rfl, Ext.refl _⟩
  refine RW_d _ rfl (fun v => by dsimp only [List.set]; try rfl) (fun u hu hF => ?_) (fun v25 => ?_)
  · have h14_ : (!(inI A_nd.kind 0 16)) = false → v24 = (Pt nd_b nd_o) := hF.1
    have h9_ : v19 = (Bo (!(inI A_nd.kind 0 16))) := hF.2.1
    clear hF
    obtain rfl := h9_
    refine doesG_g (b := (!(inI A_nd.kind 0 16))) rfl (yld rfl rfl) (fun hg1 => ?_) (fun hc => ⟨fun hg1 => absurd hg1 hc, Ext.refl _⟩)
    obtain rfl := h14_ hg1
    refine (does_nilCheck (ev rfl)).mono ?_; rintro _ _ ⟨rfl, rfl⟩
    exact ⟨fun _ => rfl, Ext.refl _⟩
  refine RW_d _ rfl (fun v => by dsimp only [List.set]; try rfl) (fun u hu hF => ?_) (fun v26 => ?_)
  · have h15_ : (!(inI A_nd.kind 0 16)) = false → v25 = (Pt nd_b nd_o) := hF.1
    have h9_ : v19 = (Bo (!(inI A_nd.kind 0 16))) := hF.2.1
    clear hF
    obtain rfl := h9_
    refine doesG_g (b := (!(inI A_nd.kind 0 16))) rfl (yld rfl rfl) (fun hg1 => ?_) (fun hc => ⟨fun hg1 => absurd hg1 hc, Ext.refl _⟩)
    obtain rfl := h15_ hg1
    refine (does_fieldAddr (ev rfl) fa27_3).mono ?_; rintro _ _ ⟨rfl, rfl⟩
    exact ⟨fun _ => rfl, Ext.refl _⟩
  refine RW_d _ rfl (fun v => by dsimp only [List.set]; try rfl) (fun u hu hF => ?_) (fun v27 => ?_)
  · have h16_ : (!(inI A_nd.kind 0 16)) = false → v26 = (Pt nd_b (nd_o + 3)) := hF.1
    have h9_ : v19 = (Bo (!(inI A_nd.kind 0 16))) := hF.2.1
    clear hF
    obtain rfl := h9_
    refine doesG_g (b := (!(inI A_nd.kind 0 16))) rfl (yld rfl rfl) (fun hg1 => ?_) (fun hc => ⟨fun hg1 => absurd hg1 hc, Ext.refl _⟩)
    obtain rfl := h16_ hg1
    refine (does_load (u := (.slice p3 A_nd.nums.length q4)) (ev rfl) Try.isAgg22 (Cells.at ((hc_nd.ext (Ext.gr (Ext.refl w) E10)).ext hu) 3 rfl)).mono ?_; rintro _ _ ⟨rfl, rfl⟩
    exact ⟨fun _ => rfl, Ext.refl _⟩
  refine RW_d _ rfl (fun v => by dsimp only [List.set]; try rfl) (fun u hu hF => ?_) (fun v28 => ?_)
  · have h13_ : (!(inI A_nd.kind 0 16)) = false → v23 = (Iv A_nd.kind) := hF.1
    have h17_ : (!(inI A_nd.kind 0 16)) = false → v27 = (.slice p3 A_nd.nums.length q4) := hF.2.1
    have h9_ : v19 = (Bo (!(inI A_nd.kind 0 16))) := hF.2.2.1
    clear hF
    obtain rfl := h9_
    refine doesG_g (b := (!(inI A_nd.kind 0 16))) rfl (yld rfl rfl) (fun hg1 => ?_) (fun hc => ⟨fun hg1 => absurd hg1 hc, Ext.refl _⟩)
    obtain rfl := h13_ hg1
    obtain rfl := h17_ hg1
    refine (does_call (args := #[(Iv A_nd.kind), (.slice p3 A_nd.nums.length q4)]) cal41 (evs rfl) (c_spec_l02Numbers A_nd.kind (.slice p3 A_nd.nums.length q4) A_nd.nums _ (Sl.ext (Sl.ext hs5 RF.mono (Ext.gr (Ext.refl w) E10)) RF.mono hu))).mono ?_; rintro v u' ⟨hx, hv⟩
    exact ⟨fun _ => hv.trans (by simp only [hβ1]), hx⟩
  refine RW_d _ rfl (fun v => by dsimp only [List.set]; try rfl) (fun u hu hF => ?_) (fun v29 => ?_)
  · have h18_ : (!(inI A_nd.kind 0 16)) = false → v28 = (Bo β1) := hF.1
    have h9_ : v19 = (Bo (!(inI A_nd.kind 0 16))) := hF.2.1
    clear hF
    obtain rfl := h9_
    refine doesG_g (b := (!(inI A_nd.kind 0 16))) rfl (yld rfl rfl) (fun hg1 => ?_) (fun hc => ⟨fun hg1 => absurd hg1 hc, Ext.refl _⟩)
    obtain rfl := h18_ hg1
    refine (does_not (ev rfl)).mono ?_; rintro _ _ ⟨rfl, rfl⟩
    exact ⟨fun _ => rfl, Ext.refl _⟩
  refine RW_d _ rfl (fun v => by dsimp only [List.set]; try rfl) (fun u hu hF => ?_) (fun v30 => ?_)
  · have h9_ : v19 = (Bo (!(inI A_nd.kind 0 16))) := hF.1
    have h19_ : (!(inI A_nd.kind 0 16)) = false → v29 = (Bo (!β1)) := hF.2.1
    clear hF
    refine doesG_un rfl ?_
    skip
    obtain rfl := h9_
    refine (does_pick (b := (!(inI A_nd.kind 0 16))) (ev rfl) (ev rfl) (ev rfl)).mono ?_; rintro _ _ ⟨rfl, rfl⟩; refine ⟨?_, Ext.refl _⟩; rw [hβ2]; skip
    cases hbb : (!(inI A_nd.kind 0 16)) <;> simp [hbb] at h19_ ⊢
    all_goals (first | rfl | (subst h19_; rfl) | simp_all)
  refine RW_d _ rfl (fun v => by dsimp only [List.set]; try rfl) (fun u hu hF => ?_) (fun v31 => ?_)
  · have h20_ : v30 = (Bo β2) := hF.1
    clear hF
    refine doesG_un rfl ?_
    obtain rfl := h20_
    refine (does_move (u := (Bo β2)) (ev rfl)).mono ?_; rintro _ _ ⟨rfl, rfl⟩
    exact ⟨rfl, Ext.refl _⟩
  refine RW_d _ rfl (fun v => by dsimp only [List.set]; try rfl) (fun u hu hF => ?_) (fun v32 => ?_)
  · have h21_ : v31 = (Bo β2) := hF.1
    clear hF
    obtain rfl := h21_
    refine doesG_g (b := β2) rfl (yld rfl rfl) (fun hg1 => ?_) (fun hc => ⟨fun hg1 => absurd hg1 hc, Ext.refl _⟩)
    refine (does_move (u := (Pt nd_b nd_o)) (ev rfl)).mono ?_; rintro _ _ ⟨rfl, rfl⟩
    exact ⟨fun _ => rfl, Ext.refl _⟩
  refine RW_d _ rfl (fun v => by dsimp only [List.set]; try rfl) (fun u hu hF => ?_) (fun v33 => ?_)
  · have h22_ : β2 = false → v32 = (Pt nd_b nd_o) := hF.1
    have h21_ : v31 = (Bo β2) := hF.2.1
    clear hF
    obtain rfl := h21_
    refine doesG_g (b := β2) rfl (yld rfl rfl) (fun hg1 => ?_) (fun hc => ⟨fun hg1 => absurd hg1 hc, Ext.refl _⟩)
    obtain rfl := h22_ hg1
    refine (does_nilCheck (ev rfl)).mono ?_; rintro _ _ ⟨rfl, rfl⟩
    exact ⟨fun _ => rfl, Ext.refl _⟩
  refine RW_d _ rfl (fun v => by dsimp only [List.set]; try rfl) (fun u hu hF => ?_) (fun v34 => ?_)
  · have h23_ : β2 = false → v33 = (Pt nd_b nd_o) := hF.1
    have h21_ : v31 = (Bo β2) := hF.2.1
    clear hF
    obtain rfl := h21_
    refine doesG_g (b := β2) rfl (yld rfl rfl) (fun hg1 => ?_) (fun hc => ⟨fun hg1 => absurd hg1 hc, Ext.refl _⟩)
    obtain rfl := h23_ hg1
    refine (does_fieldAddr (ev rfl) fa27_1).mono ?_; rintro _ _ ⟨rfl, rfl⟩
    exact ⟨fun _ => rfl, Ext.refl _⟩
  refine RW_d _ rfl (fun v => by dsimp only [List.set]; try rfl) (fun u hu hF => ?_) (fun v35 => ?_)
  · have h24_ : β2 = false → v34 = (Pt nd_b (nd_o + 1)) := hF.1
    have h21_ : v31 = (Bo β2) := hF.2.1
    clear hF
    obtain rfl := h21_
    refine doesG_g (b := β2) rfl (yld rfl rfl) (fun hg1 => ?_) (fun hc => ⟨fun hg1 => absurd hg1 hc, Ext.refl _⟩)
    obtain rfl := h24_ hg1
    refine (does_load (u := (Iv A_nd.a)) (ev rfl) Try.isAgg2 (Cells.at ((hc_nd.ext (Ext.gr (Ext.refl w) E10)).ext hu) 1 rfl)).mono ?_; rintro _ _ ⟨rfl, rfl⟩
    exact ⟨fun _ => rfl, Ext.refl _⟩
  refine RW_d _ rfl (fun v => by dsimp only [List.set]; try rfl) (fun u hu hF => ?_) (fun v36 => ?_)
  · have h25_ : β2 = false → v35 = (Iv A_nd.a) := hF.1
    have h21_ : v31 = (Bo β2) := hF.2.1
    clear hF
    obtain rfl := h21_
    refine doesG_g (b := β2) rfl (yld rfl rfl) (fun hg1 => ?_) (fun hc => ⟨fun hg1 => absurd hg1 hc, Ext.refl _⟩)
    obtain rfl := h25_ hg1
    refine (does_icmp (p := A_nd.a) (q := 0) (.inr (.inl rfl)) (ev rfl) (ev rfl)).mono ?_; rintro _ _ ⟨rfl, rfl⟩
    exact ⟨fun _ => rfl, Ext.refl _⟩
  refine RW_d _ rfl (fun v => by dsimp only [List.set]; try rfl) (fun u hu hF => ?_) (fun v37 => ?_)
  · have h21_ : v31 = (Bo β2) := hF.1
    have h26_ : β2 = false → v36 = (Bo (icmp .neq A_nd.a 0)) := hF.2.1
    clear hF
    refine doesG_un rfl ?_
    skip
    obtain rfl := h21_
    refine (does_pick (b := β2) (ev rfl) (ev rfl) (ev rfl)).mono ?_; rintro _ _ ⟨rfl, rfl⟩; refine ⟨?_, Ext.refl _⟩; rw [hβ3]; skip
    cases hbb : β2 <;> simp [hbb] at h26_ ⊢
    all_goals (first | rfl | (subst h26_; rfl) | simp_all)
  refine RW_fin ?_; intro w38 E39 hP40
  obtain ⟨⟨⟨⟨⟨⟨⟨⟨⟨⟨⟨⟨⟨⟨⟨⟨⟨⟨⟨⟨⟨⟨⟨⟨⟨-, -⟩, -⟩, -⟩, -⟩, -⟩, -⟩, -⟩, -⟩, -⟩, -⟩, -⟩, -⟩, -⟩, -⟩, -⟩, -⟩, -⟩, -⟩, -⟩, -⟩, -⟩, -⟩, -⟩, -⟩, q41⟩ := hP40
  have X42 := Ext.gr X12 E39
  have q41 : v37 = (Bo β3) := q41
  obtain rfl := q41
  show wpList _ _ _ _ (fr [(Pt nd_b nd_o), Ud, (Bo false), v13, v14, v15, v16, v17, v18, v19, v20, v21, v22, v23, v24, v25, v26, v27, v28, v29, v30, v31, v32, v33, v34, v35, v36, (Bo β3), Ud, Ud, Ud, Ud, Ud, Ud, Ud, Ud, Ud, Ud, Ud, Ud, Ud, Ud, Ud]) _
  refine wpList_nil (hK8 _ _ ?_)
  refine wp_cond_split (t := β3) (ev rfl) (fun c43 => ?_) (fun c43 => ?_)
  · have c43' := c43
    (try simp only [hβ1, hβ2, hβ3] at c43')
    (try simp only [icmp, Bool.and_eq_true, Bool.or_eq_true, Bool.and_eq_false_iff, Bool.or_eq_false_iff, Bool.not_eq_true', Bool.not_eq_false', decide_eq_true_eq, decide_eq_false_iff_not, beq_iff_eq, bne_iff_ne, beq_eq_false_iff_ne, bne_eq_false_iff_eq] at c43')
    refine wp_seq_k fun K44 hK44 => ?_
    refine wp_region_lit ?_
    refine q_is rfl rfl (does_assign (u := (Bo false)) (ev rfl)) (by dsimp only [List.set]; try rfl) ?_
    refine wpList_nil (hK44 _ _ ?_)
    refine wp_ret ?_
    dsimp only [Exit.then, Exit.inBlock]
    refine ret_val (v := (Bo false)) (res_T rfl (slot rfl)) X42 ?_
    try simp only [hβ1, hβ2, hβ3] at c43
    have x45 : (nodeOk A_nd) = false := by first | exact nodeOk_f (by assumption) | (rw [nodeOk_t (by assumption), ‹rlAx A_nd.kind = true›]; simp only [if_true, hβ1, hβ2, hβ3, c43]; done) | (rw [nodeOk_t (by assumption), ‹rlAx A_nd.kind = false›]; simp only [Bool.false_eq_true, if_false, hβ1, hβ2, hβ3, c43]; done)
    exact (by first | rfl | rw [x45])
  have c43' := c43
  (try simp only [hβ1, hβ2, hβ3] at c43')
  (try simp only [icmp, Bool.and_eq_true, Bool.or_eq_true, Bool.and_eq_false_iff, Bool.or_eq_false_iff, Bool.not_eq_true', Bool.not_eq_false', decide_eq_true_eq, decide_eq_false_iff_not, beq_iff_eq, bne_iff_ne, beq_eq_false_iff_ne, bne_eq_false_iff_eq] at c43')
  refine wp_skip (hK7 _ _ ?_)
  refine wp_seq_k fun K46 hK46 => ?_
  refine wp_seq_k fun K47 hK47 => ?_
  refine wp_region_lit ?_
  refine q_is rfl rfl (does_move (u := (Pt nd_b nd_o)) (ev rfl)) (by dsimp only [List.set]; try rfl) ?_
  refine q_is rfl rfl (does_nilCheck (ev rfl)) (by dsimp only [List.set]; try rfl) ?_
  refine q_is rfl rfl (does_fieldAddr (ev rfl) fa27_0) (by dsimp only [List.set]; try rfl) ?_
  refine q_is rfl rfl (does_load (u := (Iv A_nd.kind)) (ev rfl) Try.isAgg2 (Cells.at (hc_nd.ext X42) 0 rfl)) (by dsimp only [List.set]; try rfl) ?_
  refine seqd rfl rfl (does_call (args := #[(Iv A_nd.kind)]) cal134 (evs rfl) (c_spec_l02Axis A_nd.kind _)) ?_; rintro _ w49 ⟨E48, rfl⟩
  have X50 := Ext.gr X42 E48
  show wpList _ _ _ _ (fr [(Pt nd_b nd_o), Ud, (Bo false), v13, v14, v15, v16, v17, v18, v19, v20, v21, v22, v23, v24, v25, v26, v27, v28, v29, v30, v31, v32, v33, v34, v35, v36, (Bo β3), (Pt nd_b nd_o), (Pt nd_b nd_o), (Pt nd_b nd_o), (Iv A_nd.kind), (Bo (rlAx A_nd.kind)), Ud, Ud, Ud, Ud, Ud, Ud, Ud, Ud, Ud, Ud]) _
  refine wpList_nil (hK47 _ _ ?_)
  refine wp_cond_split (t := rlAx A_nd.kind) (ev rfl) (fun c51 => ?_) (fun c51 => ?_)
  · have c51' := c51
    (try simp only [hβ1, hβ2, hβ3] at c51')
    (try simp only [icmp, Bool.and_eq_true, Bool.or_eq_true, Bool.and_eq_false_iff, Bool.or_eq_false_iff, Bool.not_eq_true', Bool.not_eq_false', decide_eq_true_eq, decide_eq_false_iff_not, beq_iff_eq, bne_iff_ne, beq_eq_false_iff_ne, bne_eq_false_iff_eq] at c51')
    refine wp_seq_k fun K52 hK52 => ?_
    refine wp_region_lit ?_
    refine q_is rfl rfl (does_move (u := (Pt nd_b nd_o)) (ev rfl)) (by dsimp only [List.set]; try rfl) ?_
    refine q_is rfl rfl (does_nilCheck (ev rfl)) (by dsimp only [List.set]; try rfl) ?_
    refine q_is rfl rfl (does_fieldAddr (ev rfl) fa27_2) (by dsimp only [List.set]; try rfl) ?_
    refine q_is rfl rfl (does_load (u := (Iv A_nd.b)) (ev rfl) Try.isAgg2 (Cells.at (hc_nd.ext X50) 2 rfl)) (by dsimp only [List.set]; try rfl) ?_
    refine seqd rfl rfl (does_call (args := #[(Iv A_nd.b), (Iv 0), (Iv 2)]) cal97 (evs rfl) (c_spec_l00In A_nd.b 0 2 _)) ?_; rintro _ w54 ⟨E53, rfl⟩
    have X55 := Ext.gr X50 E53
    show wpList _ _ _ _ (fr [(Pt nd_b nd_o), Ud, (Bo false), v13, v14, v15, v16, v17, v18, v19, v20, v21, v22, v23, v24, v25, v26, v27, v28, v29, v30, v31, v32, v33, v34, v35, v36, (Bo β3), (Pt nd_b nd_o), (Pt nd_b nd_o), (Pt nd_b nd_o), (Iv A_nd.kind), (Bo (rlAx A_nd.kind)), (Pt nd_b nd_o), (Pt nd_b nd_o), (Pt nd_b (nd_o + 2)), (Iv A_nd.b), (Bo (inI A_nd.b 0 2)), Ud, Ud, Ud, Ud, Ud]) _
    refine q_is rfl rfl (does_assign (u := (Bo (inI A_nd.b 0 2))) (ev rfl)) (by dsimp only [List.set]; try rfl) ?_
    refine wpList_nil (hK52 _ _ ?_)
    refine wp_ret ?_
    dsimp only [Exit.then, Exit.inBlock]
    refine ret_val (v := (Bo (inI A_nd.b 0 2))) (res_T rfl (slot rfl)) X55 ?_
    try simp only [hβ1, hβ2, hβ3] at c43 c51
    have x56 : (nodeOk A_nd) = (inI A_nd.b 0 2) := by first | exact nodeOk_f (by assumption) | (rw [nodeOk_t (by assumption), ‹rlAx A_nd.kind = true›]; simp only [if_true, hβ1, hβ2, hβ3, c43, c51]; done) | (rw [nodeOk_t (by assumption), ‹rlAx A_nd.kind = false›]; simp only [Bool.false_eq_true, if_false, hβ1, hβ2, hβ3, c43, c51]; done)
    exact (by first | rfl | rw [x56])
  have c51' := c51
  (try simp only [hβ1, hβ2, hβ3] at c51')
  (try simp only [icmp, Bool.and_eq_true, Bool.or_eq_true, Bool.and_eq_false_iff, Bool.or_eq_false_iff, Bool.not_eq_true', Bool.not_eq_false', decide_eq_true_eq, decide_eq_false_iff_not, beq_iff_eq, bne_iff_ne, beq_eq_false_iff_ne, bne_eq_false_iff_eq] at c51')
  refine wp_skip (hK46 _ _ ?_)
  refine wp_seq_k fun K57 hK57 => ?_
  refine wp_region_lit ?_
  refine q_is rfl rfl (does_move (u := (Pt nd_b nd_o)) (ev rfl)) (by dsimp only [List.set]; try rfl) ?_
  refine q_is rfl rfl (does_nilCheck (ev rfl)) (by dsimp only [List.set]; try rfl) ?_
  refine q_is rfl rfl (does_fieldAddr (ev rfl) fa27_2) (by dsimp only [List.set]; try rfl) ?_
  refine q_is rfl rfl (does_load (u := (Iv A_nd.b)) (ev rfl) Try.isAgg2 (Cells.at (hc_nd.ext X50) 2 rfl)) (by dsimp only [List.set]; try rfl) ?_
  refine q_is rfl rfl (does_icmp (p := A_nd.b) (q := 0) (.inl rfl) (ev rfl) (ev rfl)) (by dsimp only [List.set]; try rfl) ?_
  refine q_is rfl rfl (does_assign (u := (Bo (icmp .eql A_nd.b 0))) (ev rfl)) (by dsimp only [List.set]; try rfl) ?_
  refine wpList_nil (hK57 _ _ ?_)
  refine wp_ret ?_
  refine ret_val (v := (Bo (icmp .eql A_nd.b 0))) (res_T rfl (slot rfl)) X50 ?_
  try simp only [hβ1, hβ2, hβ3] at c43 c51
  have x58 : (nodeOk A_nd) = (icmp .eql A_nd.b 0) := by first | exact nodeOk_f (by assumption) | (rw [nodeOk_t (by assumption), ‹rlAx A_nd.kind = true›]; simp only [if_true, hβ1, hβ2, hβ3, c43, c51]; done) | (rw [nodeOk_t (by assumption), ‹rlAx A_nd.kind = false›]; simp only [Bool.false_eq_true, if_false, hβ1, hβ2, hβ3, c43, c51]; done)
  exact (by first | rfl | rw [x58])

/- spec.l05Moves -/
theorem c_spec_l05Moves (kind : Int) (w : World) : Gives Try.prog 133 #[(Iv kind)] w (fun v w' => v = (Bo (ptsK kind))) := by
  refine enter [(Iv kind), Ud, Ud, Ud, Ud] Try.func133 rfl Try.ntmps133 rfl ?_
  refine wp_seq_k fun K1 hK1 => ?_
  refine wp_region_lit ?_
  refine q_is (l' := [(Iv kind), Ud, (Bo false), Ud, Ud]) rfl rfl (does_assign (u := (Bo false)) (ev rfl)) rfl ?_
  refine wpList_nil (hK1 _ _ ?_)
  refine wp_seq_k fun K2 hK2 => ?_
  refine wp_region_lit ?_
  refine q_is (l' := [(Iv kind), Ud, (Bo false), (Iv kind), Ud]) rfl rfl (does_move (u := (Iv kind)) (ev rfl)) rfl ?_
  refine seqd rfl rfl (does_call (args := #[(Iv kind), (Iv 9), (Iv 14)]) cal97 (evs rfl) (c_spec_l00In kind 9 14 _)) ?_; rintro _ w4 ⟨E3, rfl⟩
  have X5 := Ext.gr (Ext.refl w) E3
  show wpList _ _ _ _ (fr [(Iv kind), Ud, (Bo false), (Iv kind), (Bo (inI kind 9 14))]) _
  refine q_is (l' := [(Iv kind), Ud, (Bo (inI kind 9 14)), (Iv kind), (Bo (inI kind 9 14))]) rfl rfl (does_assign (u := (Bo (inI kind 9 14))) (ev rfl)) rfl ?_
  refine wpList_nil (hK2 _ _ ?_)
  refine wp_ret ?_
  refine ret_val (v := (Bo (inI kind 9 14))) (res_T rfl (slot rfl)) X5 ?_
  have x6 : (ptsK kind) = (inI kind 9 14) := by first | with_reducible rfl | (simp only [rlAx, ptsK]; done) | (simp [rlAx, ptsK]; done) | rfl
  exact (by first | rfl | rw [x6])

/- spec.l05Step -/
theorem c_spec_l05Step (p_b : Nat) (p_o : Nat) (p : List Value) (A_p : ProgT) (s__b : Nat) (s__o : Nat) (s_ : List Value) (A_s_ : StepT) (w : World) (hc_p : Cells w p_b p_o p) (hv_p : RProgT w A_p p) (hc_s_ : Cells w s__b s__o s_) (hv_s_ : RStepT w A_s_ s_) : Gives Try.prog 98 #[(Pt p_b p_o), (Pt s__b s__o)] w (fun v w' => v = (Bo (stepOk A_p A_s_))) := by
  obtain ⟨y1, rfl, h2⟩ := hv_p
  obtain ⟨y3, rfl, h4⟩ := hv_s_
  have hs7 := h2; have hs7l := Sl.len h2; obtain ⟨p5, q6, rfl⟩ := Sl.shape h2
  have hs10 := h4; have hs10l := Sl.len h4; obtain ⟨p8, q9, rfl⟩ := Sl.shape h4
  refine enter [(Pt p_b p_o), (Pt s__b s__o), Ud, Ud, Ud, Ud, Ud, Ud, Ud, Ud, Ud, Ud, Ud, Ud, Ud, Ud, Ud, Ud, Ud, Ud, Ud, Ud, Ud, Ud, Ud, Ud, Ud, Ud, Ud, Ud, Ud, Ud, Ud, Ud, Ud, Ud, Ud, Ud, Ud, Ud, Ud, Ud, Ud, Ud, Ud, Ud, Ud, Ud, Ud, Ud, Ud, Ud, Ud, Ud, Ud, Ud, Ud, Ud, Ud, Ud, Ud, Ud, Ud, Ud, Ud, Ud, Ud, Ud, Ud, Ud, Ud, Ud, Ud, Ud, Ud, Ud, Ud, Ud, Ud, Ud, Ud, Ud, Ud, Ud, Ud, Ud, Ud, Ud, Ud, Ud, Ud, Ud, Ud, Ud, Ud, Ud, Ud, Ud, Ud, Ud, Ud, Ud, Ud, Ud, Ud, Ud, Ud, Ud, Ud, Ud, Ud, Ud, Ud, Ud, Ud, Ud, Ud, Ud, Ud, Ud, Ud, Ud, Ud, Ud, Ud, Ud, Ud, Ud, Ud, Ud, Ud, Ud, Ud, Ud, Ud, Ud, Ud, Ud, Ud, Ud, Ud, Ud, Ud, Ud, Ud, Ud, Ud, Ud, Ud, Ud, Ud, Ud, Ud, Ud, Ud, Ud, Ud, Ud, Ud, Ud, Ud, Ud, Ud] Try.func98 rfl Try.ntmps98 rfl ?_
  refine wp_seq_k fun K11 hK11 => ?_
  refine wp_region_lit ?_
  refine q_is rfl rfl (does_assign (u := (Bo false)) (ev rfl)) (by dsimp only [List.set]; try rfl) ?_
  refine wpList_nil (hK11 _ _ ?_)
  refine wp_seq_k fun K12 hK12 => ?_
  refine wp_seq_k fun K13 hK13 => ?_
  refine wp_region_lit ?_
  refine q_is rfl rfl (does_move (u := (Pt s__b s__o)) (ev rfl)) (by dsimp only [List.set]; try rfl) ?_
  refine q_is rfl rfl (does_nilCheck (ev rfl)) (by dsimp only [List.set]; try rfl) ?_
  refine q_is rfl rfl (does_fieldAddr (ev rfl) fa100_4) (by dsimp only [List.set]; try rfl) ?_
  refine seqd rfl rfl (does_call (args := #[(Pt s__b (s__o + 4))]) cal132 (evs rfl) (c_spec_l05Node s__b (s__o + 4) [(Iv A_s_.node.kind), (Iv A_s_.node.a), (Iv A_s_.node.b), (.slice p8 A_s_.node.nums.length q9)] A_s_.node _ (Cells.sub hc_s_ 4 4) ⟨(.slice p8 A_s_.node.nums.length q9), rfl, hs10⟩)) ?_; rintro _ w15 ⟨E14, rfl⟩
  have X16 := Ext.gr (Ext.refl w) E14
  show wpList _ _ _ _ (fr [(Pt p_b p_o), (Pt s__b s__o), Ud, Ud, (Bo false), (Pt s__b s__o), (Pt s__b s__o), (Pt s__b (s__o + 4)), (Bo (nodeOk A_s_.node)), Ud, Ud, Ud, Ud, Ud, Ud, Ud, Ud, Ud, Ud, Ud, Ud, Ud, Ud, Ud, Ud, Ud, Ud, Ud, Ud, Ud, Ud, Ud, Ud, Ud, Ud, Ud, Ud, Ud, Ud, Ud, Ud, Ud, Ud, Ud, Ud, Ud, Ud, Ud, Ud, Ud, Ud, Ud, Ud, Ud, Ud, Ud, Ud, Ud, Ud, Ud, Ud, Ud, Ud, Ud, Ud, Ud, Ud, Ud, Ud, Ud, Ud, Ud, Ud, Ud, Ud, Ud, Ud, Ud, Ud, Ud, Ud, Ud, Ud, Ud, Ud, Ud, Ud, Ud, Ud, Ud, Ud, Ud, Ud, Ud, Ud, Ud, Ud, Ud, Ud, Ud, Ud, Ud, Ud, Ud, Ud, Ud, Ud, Ud, Ud, Ud, Ud, Ud, Ud, Ud, Ud, Ud, Ud, Ud, Ud, Ud, Ud, Ud, Ud, Ud, Ud, Ud, Ud, Ud, Ud, Ud, Ud, Ud, Ud, Ud, Ud, Ud, Ud, Ud, Ud, Ud, Ud, Ud, Ud, Ud, Ud, Ud, Ud, Ud, Ud, Ud, Ud, Ud, Ud, Ud, Ud, Ud, Ud, Ud, Ud, Ud, Ud, Ud, Ud]) _
  refine q_is rfl rfl (does_not (ev rfl)) (by dsimp only [List.set]; try rfl) ?_
  refine wpList_nil (hK13 _ _ ?_)
  refine wp_cond_split (t := !(nodeOk A_s_.node)) (ev rfl) (fun c17 => ?_) (fun c17 => ?_)
  · rw [Bool.not_eq_true'] at c17
    have c17' := c17
    refine wp_seq_k fun K18 hK18 => ?_
    refine wp_region_lit ?_
    refine q_is rfl rfl (does_assign (u := (Bo false)) (ev rfl)) (by dsimp only [List.set]; try rfl) ?_
    refine wpList_nil (hK18 _ _ ?_)
    refine wp_ret ?_
    dsimp only [Exit.then, Exit.inBlock]
    refine ret_val (v := (Bo false)) (res_T rfl (slot rfl)) X16 ?_
    have x19 : (stepOk A_p A_s_) = false := by first | exact stepOk_n (by assumption) | exact stepOk_2f (by assumption) (by assumption) | exact stepOk_x (by assumption) (by assumption) (by assumption) | (rw [stepOk_0 (by assumption) (by assumption)]; simp only [c17]; done) | (rw [stepOk_1 (by assumption) (by assumption)]; simp only [c17]; done) | (rw [stepOk_2t (by assumption) (by assumption) (by assumption), ‹inI A_s_.node.kind 5 8 = true›]; simp only [if_true, c17]; done) | (rw [stepOk_2t (by assumption) (by assumption) (by assumption), ‹inI A_s_.node.kind 5 8 = false›]; simp only [Bool.false_eq_true, if_false, c17]; done)
    exact (by first | rfl | rw [x19])
  rw [Bool.not_eq_false'] at c17
  have c17' := c17
  refine wp_skip (hK12 _ _ ?_)
  refine wp_seq_k fun K20 hK20 => ?_
  refine wp_seq_k fun K21 hK21 => ?_
  refine wp_region_lit ?_
  refine q_is rfl rfl (does_move (u := (Pt s__b s__o)) (ev rfl)) (by dsimp only [List.set]; try rfl) ?_
  refine q_is rfl rfl (does_nilCheck (ev rfl)) (by dsimp only [List.set]; try rfl) ?_
  refine q_is rfl rfl (does_fieldAddr (ev rfl) fa100_0) (by dsimp only [List.set]; try rfl) ?_
  refine q_is rfl rfl (does_load (u := (Iv A_s_.kind)) (ev rfl) Try.isAgg2 (Cells.at (hc_s_.ext X16) 0 rfl)) (by dsimp only [List.set]; try rfl) ?_
  refine wpList_nil (hK21 _ _ ?_)
  refine wp_block ?_
  refine wp_seq_k fun K22 hK22 => ?_
  refine wp_region_lit ?_
  refine q_is rfl rfl (does_icmp (p := A_s_.kind) (q := 0) (.inl rfl) (ev rfl) (ev rfl)) (by dsimp only [List.set]; try rfl) ?_
  refine q_is rfl rfl (does_assign (u := (Bo (icmp .eql A_s_.kind 0))) (ev rfl)) (by dsimp only [List.set]; try rfl) ?_
  refine wpList_nil (hK22 _ _ ?_)
  refine wp_cond_split (t := icmp .eql A_s_.kind 0) (ev rfl) (fun c23 => ?_) (fun c23 => ?_)
  · have c23' := c23
    (try simp only [icmp, Bool.and_eq_true, Bool.or_eq_true, Bool.and_eq_false_iff, Bool.or_eq_false_iff, Bool.not_eq_true', Bool.not_eq_false', decide_eq_true_eq, decide_eq_false_iff_not, beq_iff_eq, bne_iff_ne, beq_eq_false_iff_ne, bne_eq_false_iff_eq] at c23')
    refine wp_seq_k fun K24 hK24 => ?_
    obtain ⟨β1, hβ1⟩ : ∃ b : Bool, b = (inI A_s_.to 1 (IntKind.i64.wrap (A_p.points - 1))) := ⟨_, rfl⟩
    obtain ⟨β2, hβ2⟩ : ∃ b : Bool, b = ((ptsK A_s_.node.kind) && β1) := ⟨_, rfl⟩
    obtain ⟨β3, hβ3⟩ : ∃ b : Bool, b = (inI A_s_.a 0 (IntKind.i64.wrap (A_p.points - 1))) := ⟨_, rfl⟩
    obtain ⟨β4, hβ4⟩ : ∃ b : Bool, b = ((β2 && β3) && (icmp .eql A_s_.b 0)) := ⟨_, rfl⟩
    refine region_draw (
      [Fact.pure [] (fun v => v = (Pt s__b s__o)),
    Fact.pure [16] (fun v => v = (Pt s__b s__o)),
    Fact.pure [17] (fun v => v = (Pt s__b (s__o + 4))),
    Fact.pure [18] (fun v => v = (Pt s__b (s__o + 4))),
    Fact.pure [19] (fun v => v = (Iv A_s_.node.kind)),
    Fact.pure [20] (fun v => v = (Bo (ptsK A_s_.node.kind))),
    Fact.pure [21] (fun v => v = (Bo (ptsK A_s_.node.kind))),
    Fact.pure [22] (fun v => (ptsK A_s_.node.kind) = true → v = (Pt s__b s__o)),
    Fact.pure [23, 22] (fun v => (ptsK A_s_.node.kind) = true → v = (Pt s__b s__o)),
    Fact.pure [24, 22] (fun v => (ptsK A_s_.node.kind) = true → v = (Pt s__b (s__o + 1))),
    Fact.pure [25, 22] (fun v => (ptsK A_s_.node.kind) = true → v = (Iv A_s_.to)),
    Fact.pure [22] (fun v => (ptsK A_s_.node.kind) = true → v = (Pt p_b p_o)),
    Fact.pure [27, 22] (fun v => (ptsK A_s_.node.kind) = true → v = (Pt p_b p_o)),
    Fact.pure [28, 22] (fun v => (ptsK A_s_.node.kind) = true → v = (Pt p_b p_o)),
    Fact.pure [29, 22] (fun v => (ptsK A_s_.node.kind) = true → v = (Iv A_p.points)),
    Fact.pure [30, 22] (fun v => (ptsK A_s_.node.kind) = true → v = (Iv (IntKind.i64.wrap (A_p.points - 1)))),
    Fact.pure [26, 31, 22] (fun v => (ptsK A_s_.node.kind) = true → v = (Bo β1)),
    Fact.pure [22, 32] (fun v => v = (Bo β2)),
    Fact.pure [33] (fun v => v = (Bo β2)),
    Fact.pure [34] (fun v => β2 = true → v = (Pt s__b s__o)),
    Fact.pure [35, 34] (fun v => β2 = true → v = (Pt s__b s__o)),
    Fact.pure [36, 34] (fun v => β2 = true → v = (Pt s__b (s__o + 2))),
    Fact.pure [37, 34] (fun v => β2 = true → v = (Iv A_s_.a)),
    Fact.pure [34] (fun v => β2 = true → v = (Pt p_b p_o)),
    Fact.pure [39, 34] (fun v => β2 = true → v = (Pt p_b p_o)),
    Fact.pure [40, 34] (fun v => β2 = true → v = (Pt p_b p_o)),
    Fact.pure [41, 34] (fun v => β2 = true → v = (Iv A_p.points)),
    Fact.pure [42, 34] (fun v => β2 = true → v = (Iv (IntKind.i64.wrap (A_p.points - 1)))),
    Fact.pure [38, 43, 34] (fun v => β2 = true → v = (Bo β3)),
    Fact.pure [34, 44] (fun v => v = (Bo (β2 && β3))),
    Fact.pure [45] (fun v => v = (Bo (β2 && β3))),
    Fact.pure [46] (fun v => (β2 && β3) = true → v = (Pt s__b s__o)),
    Fact.pure [47, 46] (fun v => (β2 && β3) = true → v = (Pt s__b s__o)),
    Fact.pure [48, 46] (fun v => (β2 && β3) = true → v = (Pt s__b (s__o + 3))),
    Fact.pure [49, 46] (fun v => (β2 && β3) = true → v = (Iv A_s_.b)),
    Fact.pure [50, 46] (fun v => (β2 && β3) = true → v = (Bo (icmp .eql A_s_.b 0))),
    Fact.pure [46, 51] (fun v => v = (Bo β4))]) mixed (by kernel_rfl) (by intro _ _ d _ _ h; cases d <;> exact h) ?_
    obtain ⟨w25, hw27⟩ : ∃ w', w' = World.drew w15 := ⟨_, rfl⟩; rw [← hw27]; have E26 : Ext w15 w25 := by rw [hw27]; exact Ext.draw _
    clear hw27
    have X28 := Ext.gr X16 E26
    refine RW_d _ rfl (fun v => by dsimp only [List.set]; try rfl) (fun u hu hF => ?_) (fun v29 => ?_)
    · clear hF
      refine doesG_un rfl ?_
      refine (does_move (u := (Pt s__b s__o)) (ev rfl)).mono ?_; rintro _ _ ⟨rfl, rfl⟩
      exact ⟨rfl, Ext.refl _⟩
    refine RW_d _ rfl (fun v => by dsimp only [List.set]; try rfl) (fun u hu hF => ?_) (fun v30 => ?_)
    · have h16_ : v29 = (Pt s__b s__o) := hF.1
      clear hF
      refine doesG_un rfl ?_
      obtain rfl := h16_
      refine (does_nilCheck (ev rfl)).mono ?_; rintro _ _ ⟨rfl, rfl⟩
      exact ⟨rfl, Ext.refl _⟩
    refine RW_d _ rfl (fun v => by dsimp only [List.set]; try rfl) (fun u hu hF => ?_) (fun v31 => ?_)
    · have h17_ : v30 = (Pt s__b s__o) := hF.1
      clear hF
      refine doesG_un rfl ?_
      obtain rfl := h17_
      refine (does_fieldAddr (ev rfl) fa100_4).mono ?_; rintro _ _ ⟨rfl, rfl⟩
      exact ⟨rfl, Ext.refl _⟩
    refine RW_d _ rfl (fun v => by dsimp only [List.set]; try rfl) (fun u hu hF => ?_) (fun v32 => ?_)
    · have h18_ : v31 = (Pt s__b (s__o + 4)) := hF.1
      clear hF
      refine doesG_un rfl ?_
      obtain rfl := h18_
      refine (does_fieldAddr (ev rfl) fa27_0).mono ?_; rintro _ _ ⟨rfl, rfl⟩
      exact ⟨rfl, Ext.refl _⟩
    refine RW_d _ rfl (fun v => by dsimp only [List.set]; try rfl) (fun u hu hF => ?_) (fun v33 => ?_)
    · have h19_ : v32 = (Pt s__b (s__o + 4)) := hF.1
      clear hF
      refine doesG_un rfl ?_
      obtain rfl := h19_
      refine (does_load (u := (Iv A_s_.node.kind)) (ev rfl) Try.isAgg2 (Cells.at ((hc_s_.ext (Ext.gr X16 E26)).ext hu) 4 rfl)).mono ?_; rintro _ _ ⟨rfl, rfl⟩
      exact ⟨rfl, Ext.refl _⟩
    refine RW_d _ rfl (fun v => by dsimp only [List.set]; try rfl) (fun u hu hF => ?_) (fun v34 => ?_)
    · have h20_ : v33 = (Iv A_s_.node.kind) := hF.1
      clear hF
      refine doesG_un rfl ?_
      obtain rfl := h20_
      refine (does_call (args := #[(Iv A_s_.node.kind)]) cal133 (evs rfl) (c_spec_l05Moves A_s_.node.kind _)).mono ?_; rintro v u' ⟨hx, hv⟩
      exact ⟨hv, hx⟩
    refine RW_d _ rfl (fun v => by dsimp only [List.set]; try rfl) (fun u hu hF => ?_) (fun v35 => ?_)
    · have h21_ : v34 = (Bo (ptsK A_s_.node.kind)) := hF.1
      clear hF
      refine doesG_un rfl ?_
      obtain rfl := h21_
      refine (does_move (u := (Bo (ptsK A_s_.node.kind))) (ev rfl)).mono ?_; rintro _ _ ⟨rfl, rfl⟩
      exact ⟨rfl, Ext.refl _⟩
    refine RW_d _ rfl (fun v => by dsimp only [List.set]; try rfl) (fun u hu hF => ?_) (fun v36 => ?_)
    · have h22_ : v35 = (Bo (ptsK A_s_.node.kind)) := hF.1
      clear hF
      obtain rfl := h22_
      refine doesG_g (b := (ptsK A_s_.node.kind)) rfl (yld rfl rfl) (fun hg1 => ?_) (fun hc => ⟨fun hg1 => absurd hg1 hc, Ext.refl _⟩)
      refine (does_move (u := (Pt s__b s__o)) (ev rfl)).mono ?_; rintro _ _ ⟨rfl, rfl⟩
      exact ⟨fun _ => rfl, Ext.refl _⟩
    refine RW_d _ rfl (fun v => by dsimp only [List.set]; try rfl) (fun u hu hF => ?_) (fun v37 => ?_)
    · have h23_ : (ptsK A_s_.node.kind) = true → v36 = (Pt s__b s__o) := hF.1
      have h22_ : v35 = (Bo (ptsK A_s_.node.kind)) := hF.2.1
      clear hF
      obtain rfl := h22_
      refine doesG_g (b := (ptsK A_s_.node.kind)) rfl (yld rfl rfl) (fun hg1 => ?_) (fun hc => ⟨fun hg1 => absurd hg1 hc, Ext.refl _⟩)
      obtain rfl := h23_ hg1
      refine (does_nilCheck (ev rfl)).mono ?_; rintro _ _ ⟨rfl, rfl⟩
      exact ⟨fun _ => rfl, Ext.refl _⟩
    refine RW_d _ rfl (fun v => by dsimp only [List.set]; try rfl) (fun u hu hF => ?_) (fun v38 => ?_)
    · have h24_ : (ptsK A_s_.node.kind) = true → v37 = (Pt s__b s__o) := hF.1
      have h22_ : v35 = (Bo (ptsK A_s_.node.kind)) := hF.2.1
      clear hF
      obtain rfl := h22_
      refine doesG_g (b := (ptsK A_s_.node.kind)) rfl (yld rfl rfl) (fun hg1 => ?_) (fun hc => ⟨fun hg1 => absurd hg1 hc, Ext.refl _⟩)
      obtain rfl := h24_ hg1
      refine (does_fieldAddr (ev rfl) fa100_1).mono ?_; rintro _ _ ⟨rfl, rfl⟩
      exact ⟨fun _ => rfl, Ext.refl _⟩
    refine RW_d _ rfl (fun v => by dsimp only [List.set]; try rfl) (fun u hu hF => ?_) (fun v39 => ?_)
    · have h25_ : (ptsK A_s_.node.kind) = true → v38 = (Pt s__b (s__o + 1)) := hF.1
      have h22_ : v35 = (Bo (ptsK A_s_.node.kind)) := hF.2.1
      clear hF
      obtain rfl := h22_
      refine doesG_g (b := (ptsK A_s_.node.kind)) rfl (yld rfl rfl) (fun hg1 => ?_) (fun hc => ⟨fun hg1 => absurd hg1 hc, Ext.refl _⟩)
      obtain rfl := h25_ hg1
      refine (does_load (u := (Iv A_s_.to)) (ev rfl) Try.isAgg2 (Cells.at ((hc_s_.ext (Ext.gr X16 E26)).ext hu) 1 rfl)).mono ?_; rintro _ _ ⟨rfl, rfl⟩
      exact ⟨fun _ => rfl, Ext.refl _⟩
    refine RW_d _ rfl (fun v => by dsimp only [List.set]; try rfl) (fun u hu hF => ?_) (fun v40 => ?_)
    · have h22_ : v35 = (Bo (ptsK A_s_.node.kind)) := hF.1
      clear hF
      obtain rfl := h22_
      refine doesG_g (b := (ptsK A_s_.node.kind)) rfl (yld rfl rfl) (fun hg1 => ?_) (fun hc => ⟨fun hg1 => absurd hg1 hc, Ext.refl _⟩)
      refine (does_move (u := (Pt p_b p_o)) (ev rfl)).mono ?_; rintro _ _ ⟨rfl, rfl⟩
      exact ⟨fun _ => rfl, Ext.refl _⟩
    refine RW_d _ rfl (fun v => by dsimp only [List.set]; try rfl) (fun u hu hF => ?_) (fun v41 => ?_)
    · have h27_ : (ptsK A_s_.node.kind) = true → v40 = (Pt p_b p_o) := hF.1
      have h22_ : v35 = (Bo (ptsK A_s_.node.kind)) := hF.2.1
      clear hF
      obtain rfl := h22_
      refine doesG_g (b := (ptsK A_s_.node.kind)) rfl (yld rfl rfl) (fun hg1 => ?_) (fun hc => ⟨fun hg1 => absurd hg1 hc, Ext.refl _⟩)
      obtain rfl := h27_ hg1
      refine (does_nilCheck (ev rfl)).mono ?_; rintro _ _ ⟨rfl, rfl⟩
      exact ⟨fun _ => rfl, Ext.refl _⟩
    refine RW_d _ rfl (fun v => by dsimp only [List.set]; try rfl) (fun u hu hF => ?_) (fun v42 => ?_)
    · have h28_ : (ptsK A_s_.node.kind) = true → v41 = (Pt p_b p_o) := hF.1
      have h22_ : v35 = (Bo (ptsK A_s_.node.kind)) := hF.2.1
      clear hF
      obtain rfl := h22_
      refine doesG_g (b := (ptsK A_s_.node.kind)) rfl (yld rfl rfl) (fun hg1 => ?_) (fun hc => ⟨fun hg1 => absurd hg1 hc, Ext.refl _⟩)
      obtain rfl := h28_ hg1
      refine (does_fieldAddr (ev rfl) fa38_0).mono ?_; rintro _ _ ⟨rfl, rfl⟩
      exact ⟨fun _ => rfl, Ext.refl _⟩
    refine RW_d _ rfl (fun v => by dsimp only [List.set]; try rfl) (fun u hu hF => ?_) (fun v43 => ?_)
    · have h29_ : (ptsK A_s_.node.kind) = true → v42 = (Pt p_b p_o) := hF.1
      have h22_ : v35 = (Bo (ptsK A_s_.node.kind)) := hF.2.1
      clear hF
      obtain rfl := h22_
      refine doesG_g (b := (ptsK A_s_.node.kind)) rfl (yld rfl rfl) (fun hg1 => ?_) (fun hc => ⟨fun hg1 => absurd hg1 hc, Ext.refl _⟩)
      obtain rfl := h29_ hg1
      refine (does_load (u := (Iv A_p.points)) (ev rfl) Try.isAgg2 (Cells.at ((hc_p.ext (Ext.gr X16 E26)).ext hu) 0 rfl)).mono ?_; rintro _ _ ⟨rfl, rfl⟩
      exact ⟨fun _ => rfl, Ext.refl _⟩
    refine RW_d _ rfl (fun v => by dsimp only [List.set]; try rfl) (fun u hu hF => ?_) (fun v44 => ?_)
    · have h30_ : (ptsK A_s_.node.kind) = true → v43 = (Iv A_p.points) := hF.1
      have h22_ : v35 = (Bo (ptsK A_s_.node.kind)) := hF.2.1
      clear hF
      obtain rfl := h22_
      refine doesG_g (b := (ptsK A_s_.node.kind)) rfl (yld rfl rfl) (fun hg1 => ?_) (fun hc => ⟨fun hg1 => absurd hg1 hc, Ext.refl _⟩)
      obtain rfl := h30_ hg1
      refine (does_iarith (p := A_p.points) (q := 1) (r := IntKind.i64.wrap (A_p.points - 1)) (ev rfl) (ev rfl) (.inr (.inl ⟨rfl, rfl⟩))).mono ?_; rintro _ _ ⟨rfl, rfl⟩
      exact ⟨fun _ => rfl, Ext.refl _⟩
    refine RW_d _ rfl (fun v => by dsimp only [List.set]; try rfl) (fun u hu hF => ?_) (fun v45 => ?_)
    · have h26_ : (ptsK A_s_.node.kind) = true → v39 = (Iv A_s_.to) := hF.1
      have h31_ : (ptsK A_s_.node.kind) = true → v44 = (Iv (IntKind.i64.wrap (A_p.points - 1))) := hF.2.1
      have h22_ : v35 = (Bo (ptsK A_s_.node.kind)) := hF.2.2.1
      clear hF
      obtain rfl := h22_
      refine doesG_g (b := (ptsK A_s_.node.kind)) rfl (yld rfl rfl) (fun hg1 => ?_) (fun hc => ⟨fun hg1 => absurd hg1 hc, Ext.refl _⟩)
      obtain rfl := h26_ hg1
      obtain rfl := h31_ hg1
      refine (does_call (args := #[(Iv A_s_.to), (Iv 1), (Iv (IntKind.i64.wrap (A_p.points - 1)))]) cal97 (evs rfl) (c_spec_l00In A_s_.to 1 (IntKind.i64.wrap (A_p.points - 1)) _)).mono ?_; rintro v u' ⟨hx, hv⟩
      exact ⟨fun _ => hv.trans (by simp only [hβ1]), hx⟩
    refine RW_d _ rfl (fun v => by dsimp only [List.set]; try rfl) (fun u hu hF => ?_) (fun v46 => ?_)
    · have h22_ : v35 = (Bo (ptsK A_s_.node.kind)) := hF.1
      have h32_ : (ptsK A_s_.node.kind) = true → v45 = (Bo β1) := hF.2.1
      clear hF
      refine doesG_un rfl ?_
      skip
      obtain rfl := h22_
      refine (does_pick (b := (ptsK A_s_.node.kind)) (ev rfl) (ev rfl) (ev rfl)).mono ?_; rintro _ _ ⟨rfl, rfl⟩; refine ⟨?_, Ext.refl _⟩; rw [hβ2]; skip
      cases hbb : (ptsK A_s_.node.kind) <;> simp [hbb] at h32_ ⊢
      all_goals (first | rfl | (subst h32_; rfl) | simp_all)
    refine RW_d _ rfl (fun v => by dsimp only [List.set]; try rfl) (fun u hu hF => ?_) (fun v47 => ?_)
    · have h33_ : v46 = (Bo β2) := hF.1
      clear hF
      refine doesG_un rfl ?_
      obtain rfl := h33_
      refine (does_move (u := (Bo β2)) (ev rfl)).mono ?_; rintro _ _ ⟨rfl, rfl⟩
      exact ⟨rfl, Ext.refl _⟩
    refine RW_d _ rfl (fun v => by dsimp only [List.set]; try rfl) (fun u hu hF => ?_) (fun v48 => ?_)
    · have h34_ : v47 = (Bo β2) := hF.1
      clear hF
      obtain rfl := h34_
      refine doesG_g (b := β2) rfl (yld rfl rfl) (fun hg1 => ?_) (fun hc => ⟨fun hg1 => absurd hg1 hc, Ext.refl _⟩)
      refine (does_move (u := (Pt s__b s__o)) (ev rfl)).mono ?_; rintro _ _ ⟨rfl, rfl⟩
      exact ⟨fun _ => rfl, Ext.refl _⟩
    refine RW_d _ rfl (fun v => by dsimp only [List.set]; try rfl) (fun u hu hF => ?_) (fun v49 => ?_)
    · have h35_ : β2 = true → v48 = (Pt s__b s__o) := hF.1
      have h34_ : v47 = (Bo β2) := hF.2.1
      clear hF
      obtain rfl := h34_
      refine doesG_g (b := β2) rfl (yld rfl rfl) (fun hg1 => ?_) (fun hc => ⟨fun hg1 => absurd hg1 hc, Ext.refl _⟩)
      obtain rfl := h35_ hg1
      refine (does_nilCheck (ev rfl)).mono ?_; rintro _ _ ⟨rfl, rfl⟩
      exact ⟨fun _ => rfl, Ext.refl _⟩
    refine RW_d _ rfl (fun v => by dsimp only [List.set]; try rfl) (fun u hu hF => ?_) (fun v50 => ?_)
    · have h36_ : β2 = true → v49 = (Pt s__b s__o) := hF.1
      have h34_ : v47 = (Bo β2) := hF.2.1
      clear hF
      obtain rfl := h34_
      refine doesG_g (b := β2) rfl (yld rfl rfl) (fun hg1 => ?_) (fun hc => ⟨fun hg1 => absurd hg1 hc, Ext.refl _⟩)
      obtain rfl := h36_ hg1
      refine (does_fieldAddr (ev rfl) fa100_2).mono ?_; rintro _ _ ⟨rfl, rfl⟩
      exact ⟨fun _ => rfl, Ext.refl _⟩
    refine RW_d _ rfl (fun v => by dsimp only [List.set]; try rfl) (fun u hu hF => ?_) (fun v51 => ?_)
    · have h37_ : β2 = true → v50 = (Pt s__b (s__o + 2)) := hF.1
      have h34_ : v47 = (Bo β2) := hF.2.1
      clear hF
      obtain rfl := h34_
      refine doesG_g (b := β2) rfl (yld rfl rfl) (fun hg1 => ?_) (fun hc => ⟨fun hg1 => absurd hg1 hc, Ext.refl _⟩)
      obtain rfl := h37_ hg1
      refine (does_load (u := (Iv A_s_.a)) (ev rfl) Try.isAgg2 (Cells.at ((hc_s_.ext (Ext.gr X16 E26)).ext hu) 2 rfl)).mono ?_; rintro _ _ ⟨rfl, rfl⟩
      exact ⟨fun _ => rfl, Ext.refl _⟩
    refine RW_d _ rfl (fun v => by dsimp only [List.set]; try rfl) (fun u hu hF => ?_) (fun v52 => ?_)
    · have h34_ : v47 = (Bo β2) := hF.1
      clear hF
      obtain rfl := h34_
      refine doesG_g (b := β2) rfl (yld rfl rfl) (fun hg1 => ?_) (fun hc => ⟨fun hg1 => absurd hg1 hc, Ext.refl _⟩)
      refine (does_move (u := (Pt p_b p_o)) (ev rfl)).mono ?_; rintro _ _ ⟨rfl, rfl⟩
      exact ⟨fun _ => rfl, Ext.refl _⟩
    refine RW_d _ rfl (fun v => by dsimp only [List.set]; try rfl) (fun u hu hF => ?_) (fun v53 => ?_)
    · have h39_ : β2 = true → v52 = (Pt p_b p_o) := hF.1
      have h34_ : v47 = (Bo β2) := hF.2.1
      clear hF
      obtain rfl := h34_
      refine doesG_g (b := β2) rfl (yld rfl rfl) (fun hg1 => ?_) (fun hc => ⟨fun hg1 => absurd hg1 hc, Ext.refl _⟩)
      obtain rfl := h39_ hg1
      refine (does_nilCheck (ev rfl)).mono ?_; rintro _ _ ⟨rfl, rfl⟩
      exact ⟨fun _ => rfl, Ext.refl _⟩
    refine RW_d _ rfl (fun v => by dsimp only [List.set]; try rfl) (fun u hu hF => ?_) (fun v54 => ?_)
    · have h40_ : β2 = true → v53 = (Pt p_b p_o) := hF.1
      have h34_ : v47 = (Bo β2) := hF.2.1
      clear hF
      obtain rfl := h34_
      refine doesG_g (b := β2) rfl (yld rfl rfl) (fun hg1 => ?_) (fun hc => ⟨fun hg1 => absurd hg1 hc, Ext.refl _⟩)
      obtain rfl := h40_ hg1
      refine (does_fieldAddr (ev rfl) fa38_0).mono ?_; rintro _ _ ⟨rfl, rfl⟩
      exact ⟨fun _ => rfl, Ext.refl _⟩
    refine RW_d _ rfl (fun v => by dsimp only [List.set]; try rfl) (fun u hu hF => ?_) (fun v55 => ?_)
    · have h41_ : β2 = true → v54 = (Pt p_b p_o) := hF.1
      have h34_ : v47 = (Bo β2) := hF.2.1
      clear hF
      obtain rfl := h34_
      refine doesG_g (b := β2) rfl (yld rfl rfl) (fun hg1 => ?_) (fun hc => ⟨fun hg1 => absurd hg1 hc, Ext.refl _⟩)
      obtain rfl := h41_ hg1
      refine (does_load (u := (Iv A_p.points)) (ev rfl) Try.isAgg2 (Cells.at ((hc_p.ext (Ext.gr X16 E26)).ext hu) 0 rfl)).mono ?_; rintro _ _ ⟨rfl, rfl⟩
      exact ⟨fun _ => rfl, Ext.refl _⟩
    refine RW_d _ rfl (fun v => by dsimp only [List.set]; try rfl) (fun u hu hF => ?_) (fun v56 => ?_)
    · have h42_ : β2 = true → v55 = (Iv A_p.points) := hF.1
      have h34_ : v47 = (Bo β2) := hF.2.1
      clear hF
      obtain rfl := h34_
      refine doesG_g (b := β2) rfl (yld rfl rfl) (fun hg1 => ?_) (fun hc => ⟨fun hg1 => absurd hg1 hc, Ext.refl _⟩)
      obtain rfl := h42_ hg1
      refine (does_iarith (p := A_p.points) (q := 1) (r := IntKind.i64.wrap (A_p.points - 1)) (ev rfl) (ev rfl) (.inr (.inl ⟨rfl, rfl⟩))).mono ?_; rintro _ _ ⟨rfl, rfl⟩
      exact ⟨fun _ => rfl, Ext.refl _⟩
    refine RW_d _ rfl (fun v => by dsimp only [List.set]; try rfl) (fun u hu hF => ?_) (fun v57 => ?_)
    · have h38_ : β2 = true → v51 = (Iv A_s_.a) := hF.1
      have h43_ : β2 = true → v56 = (Iv (IntKind.i64.wrap (A_p.points - 1))) := hF.2.1
      have h34_ : v47 = (Bo β2) := hF.2.2.1
      clear hF
      obtain rfl := h34_
      refine doesG_g (b := β2) rfl (yld rfl rfl) (fun hg1 => ?_) (fun hc => ⟨fun hg1 => absurd hg1 hc, Ext.refl _⟩)
      obtain rfl := h38_ hg1
      obtain rfl := h43_ hg1
      refine (does_call (args := #[(Iv A_s_.a), (Iv 0), (Iv (IntKind.i64.wrap (A_p.points - 1)))]) cal97 (evs rfl) (c_spec_l00In A_s_.a 0 (IntKind.i64.wrap (A_p.points - 1)) _)).mono ?_; rintro v u' ⟨hx, hv⟩
      exact ⟨fun _ => hv.trans (by simp only [hβ3]), hx⟩
    refine RW_d _ rfl (fun v => by dsimp only [List.set]; try rfl) (fun u hu hF => ?_) (fun v58 => ?_)
    · have h34_ : v47 = (Bo β2) := hF.1
      have h44_ : β2 = true → v57 = (Bo β3) := hF.2.1
      clear hF
      refine doesG_un rfl ?_
      skip
      obtain rfl := h34_
      refine (does_pick (b := β2) (ev rfl) (ev rfl) (ev rfl)).mono ?_; rintro _ _ ⟨rfl, rfl⟩; refine ⟨?_, Ext.refl _⟩; skip
      cases hbb : β2 <;> simp [hbb] at h44_ ⊢
      all_goals (first | rfl | (subst h44_; rfl) | simp_all)
    refine RW_d _ rfl (fun v => by dsimp only [List.set]; try rfl) (fun u hu hF => ?_) (fun v59 => ?_)
    · have h45_ : v58 = (Bo (β2 && β3)) := hF.1
      clear hF
      refine doesG_un rfl ?_
      obtain rfl := h45_
      refine (does_move (u := (Bo (β2 && β3))) (ev rfl)).mono ?_; rintro _ _ ⟨rfl, rfl⟩
      exact ⟨rfl, Ext.refl _⟩
    refine RW_d _ rfl (fun v => by dsimp only [List.set]; try rfl) (fun u hu hF => ?_) (fun v60 => ?_)
    · have h46_ : v59 = (Bo (β2 && β3)) := hF.1
      clear hF
      obtain rfl := h46_
      refine doesG_g (b := (β2 && β3)) rfl (yld rfl rfl) (fun hg1 => ?_) (fun hc => ⟨fun hg1 => absurd hg1 hc, Ext.refl _⟩)
      refine (does_move (u := (Pt s__b s__o)) (ev rfl)).mono ?_; rintro _ _ ⟨rfl, rfl⟩
      exact ⟨fun _ => rfl, Ext.refl _⟩
    refine RW_d _ rfl (fun v => by dsimp only [List.set]; try rfl) (fun u hu hF => ?_) (fun v61 => ?_)
    · have h47_ : (β2 && β3) = true → v60 = (Pt s__b s__o) := hF.1
      have h46_ : v59 = (Bo (β2 && β3)) := hF.2.1
      clear hF
      obtain rfl := h46_
      refine doesG_g (b := (β2 && β3)) rfl (yld rfl rfl) (fun hg1 => ?_) (fun hc => ⟨fun hg1 => absurd hg1 hc, Ext.refl _⟩)
      obtain rfl := h47_ hg1
      refine (does_nilCheck (ev rfl)).mono ?_; rintro _ _ ⟨rfl, rfl⟩
      exact ⟨fun _ => rfl, Ext.refl _⟩
    refine RW_d _ rfl (fun v => by dsimp only [List.set]; try rfl) (fun u hu hF => ?_) (fun v62 => ?_)
    · have h48_ : (β2 && β3) = true → v61 = (Pt s__b s__o) := hF.1
      have h46_ : v59 = (Bo (β2 && β3)) := hF.2.1
      clear hF
      obtain rfl := h46_
      refine doesG_g (b := (β2 && β3)) rfl (yld rfl rfl) (fun hg1 => ?_) (fun hc => ⟨fun hg1 => absurd hg1 hc, Ext.refl _⟩)
      obtain rfl := h48_ hg1
      refine (does_fieldAddr (ev rfl) fa100_3).mono ?_; rintro _ _ ⟨rfl, rfl⟩
      exact ⟨fun _ => rfl, Ext.refl _⟩
    refine RW_d _ rfl (fun v => by dsimp only [List.set]; try rfl) (fun u hu hF => ?_) (fun v63 => ?_)
    · have h49_ : (β2 && β3) = true → v62 = (Pt s__b (s__o + 3)) := hF.1
      have h46_ : v59 = (Bo (β2 && β3)) := hF.2.1
      clear hF
      obtain rfl := h46_
      refine doesG_g (b := (β2 && β3)) rfl (yld rfl rfl) (fun hg1 => ?_) (fun hc => ⟨fun hg1 => absurd hg1 hc, Ext.refl _⟩)
      obtain rfl := h49_ hg1
      refine (does_load (u := (Iv A_s_.b)) (ev rfl) Try.isAgg2 (Cells.at ((hc_s_.ext (Ext.gr X16 E26)).ext hu) 3 rfl)).mono ?_; rintro _ _ ⟨rfl, rfl⟩
      exact ⟨fun _ => rfl, Ext.refl _⟩
    refine RW_d _ rfl (fun v => by dsimp only [List.set]; try rfl) (fun u hu hF => ?_) (fun v64 => ?_)
    · have h50_ : (β2 && β3) = true → v63 = (Iv A_s_.b) := hF.1
      have h46_ : v59 = (Bo (β2 && β3)) := hF.2.1
      clear hF
      obtain rfl := h46_
      refine doesG_g (b := (β2 && β3)) rfl (yld rfl rfl) (fun hg1 => ?_) (fun hc => ⟨fun hg1 => absurd hg1 hc, Ext.refl _⟩)
      obtain rfl := h50_ hg1
      refine (does_icmp (p := A_s_.b) (q := 0) (.inl rfl) (ev rfl) (ev rfl)).mono ?_; rintro _ _ ⟨rfl, rfl⟩
      exact ⟨fun _ => rfl, Ext.refl _⟩
    refine RW_d _ rfl (fun v => by dsimp only [List.set]; try rfl) (fun u hu hF => ?_) (fun v65 => ?_)
    · have h46_ : v59 = (Bo (β2 && β3)) := hF.1
      have h51_ : (β2 && β3) = true → v64 = (Bo (icmp .eql A_s_.b 0)) := hF.2.1
      clear hF
      refine doesG_un rfl ?_
      skip
      obtain rfl := h46_
      refine (does_pick (b := (β2 && β3)) (ev rfl) (ev rfl) (ev rfl)).mono ?_; rintro _ _ ⟨rfl, rfl⟩; refine ⟨?_, Ext.refl _⟩; rw [hβ4]; skip
      cases hbb : (β2 && β3) <;> simp [hbb] at h51_ ⊢
      all_goals (first | rfl | (subst h51_; rfl) | simp_all)
    refine RW_fin ?_; intro w66 E67 hP68
    obtain ⟨⟨⟨⟨⟨⟨⟨⟨⟨⟨⟨⟨⟨⟨⟨⟨⟨⟨⟨⟨⟨⟨⟨⟨⟨⟨⟨⟨⟨⟨⟨⟨⟨⟨⟨⟨⟨-, -⟩, -⟩, -⟩, -⟩, -⟩, -⟩, -⟩, -⟩, -⟩, -⟩, -⟩, -⟩, -⟩, -⟩, -⟩, -⟩, -⟩, -⟩, -⟩, -⟩, -⟩, -⟩, -⟩, -⟩, -⟩, -⟩, -⟩, -⟩, -⟩, -⟩, -⟩, -⟩, -⟩, -⟩, -⟩, -⟩, q69⟩ := hP68
    have X70 := Ext.gr X28 E67
    have q69 : v65 = (Bo β4) := q69
    obtain rfl := q69
    show wpList _ _ _ _ (fr [(Pt p_b p_o), (Pt s__b s__o), Ud, Ud, (Bo false), (Pt s__b s__o), (Pt s__b s__o), (Pt s__b (s__o + 4)), (Bo (nodeOk A_s_.node)), (Bo (!(nodeOk A_s_.node))), (Pt s__b s__o), (Pt s__b s__o), (Pt s__b s__o), (Iv A_s_.kind), (Bo (icmp .eql A_s_.kind 0)), (Bo (icmp .eql A_s_.kind 0)), v29, v30, v31, v32, v33, v34, v35, v36, v37, v38, v39, v40, v41, v42, v43, v44, v45, v46, v47, v48, v49, v50, v51, v52, v53, v54, v55, v56, v57, v58, v59, v60, v61, v62, v63, v64, (Bo β4), Ud, Ud, Ud, Ud, Ud, Ud, Ud, Ud, Ud, Ud, Ud, Ud, Ud, Ud, Ud, Ud, Ud, Ud, Ud, Ud, Ud, Ud, Ud, Ud, Ud, Ud, Ud, Ud, Ud, Ud, Ud, Ud, Ud, Ud, Ud, Ud, Ud, Ud, Ud, Ud, Ud, Ud, Ud, Ud, Ud, Ud, Ud, Ud, Ud, Ud, Ud, Ud, Ud, Ud, Ud, Ud, Ud, Ud, Ud, Ud, Ud, Ud, Ud, Ud, Ud, Ud, Ud, Ud, Ud, Ud, Ud, Ud, Ud, Ud, Ud, Ud, Ud, Ud, Ud, Ud, Ud, Ud, Ud, Ud, Ud, Ud, Ud, Ud, Ud, Ud, Ud, Ud, Ud, Ud, Ud, Ud, Ud, Ud, Ud, Ud, Ud, Ud, Ud, Ud, Ud, Ud, Ud, Ud, Ud, Ud]) _
    refine q_is rfl rfl (does_assign (u := (Bo β4)) (ev rfl)) (by dsimp only [List.set]; try rfl) ?_
    refine wpList_nil (hK24 _ _ ?_)
    refine wp_ret ?_
    dsimp only [Exit.then, Exit.inBlock]
    refine ret_val (v := (Bo β4)) (res_T rfl (slot rfl)) X70 ?_
    try simp only [hβ1, hβ2, hβ3, hβ4] at c17 c23
    have x71 : (stepOk A_p A_s_) = β4 := by first | exact stepOk_n (by assumption) | exact stepOk_2f (by assumption) (by assumption) | exact stepOk_x (by assumption) (by assumption) (by assumption) | (rw [stepOk_0 (by assumption) (by assumption)]; simp only [hβ1, hβ2, hβ3, hβ4, c17, c23]; done) | (rw [stepOk_1 (by assumption) (by assumption)]; simp only [hβ1, hβ2, hβ3, hβ4, c17, c23]; done) | (rw [stepOk_2t (by assumption) (by assumption) (by assumption), ‹inI A_s_.node.kind 5 8 = true›]; simp only [if_true, hβ1, hβ2, hβ3, hβ4, c17, c23]; done) | (rw [stepOk_2t (by assumption) (by assumption) (by assumption), ‹inI A_s_.node.kind 5 8 = false›]; simp only [Bool.false_eq_true, if_false, hβ1, hβ2, hβ3, hβ4, c17, c23]; done)
    exact (by first | rfl | rw [x71])
  have c23' := c23
  (try simp only [icmp, Bool.and_eq_true, Bool.or_eq_true, Bool.and_eq_false_iff, Bool.or_eq_false_iff, Bool.not_eq_true', Bool.not_eq_false', decide_eq_true_eq, decide_eq_false_iff_not, beq_iff_eq, bne_iff_ne, beq_eq_false_iff_ne, bne_eq_false_iff_eq] at c23')
  refine wp_seq_k fun K72 hK72 => ?_
  refine wp_region_lit ?_
  refine q_is rfl rfl (does_icmp (p := A_s_.kind) (q := 1) (.inl rfl) (ev rfl) (ev rfl)) (by dsimp only [List.set]; try rfl) ?_
  refine q_is rfl rfl (does_assign (u := (Bo (icmp .eql A_s_.kind 1))) (ev rfl)) (by dsimp only [List.set]; try rfl) ?_
  refine wpList_nil (hK72 _ _ ?_)
  refine wp_cond_split (t := icmp .eql A_s_.kind 1) (ev rfl) (fun c73 => ?_) (fun c73 => ?_)
  · have c73' := c73
    (try simp only [icmp, Bool.and_eq_true, Bool.or_eq_true, Bool.and_eq_false_iff, Bool.or_eq_false_iff, Bool.not_eq_true', Bool.not_eq_false', decide_eq_true_eq, decide_eq_false_iff_not, beq_iff_eq, bne_iff_ne, beq_eq_false_iff_ne, bne_eq_false_iff_eq] at c73')
    refine wp_seq_k fun K74 hK74 => ?_
    obtain ⟨β5, hβ5⟩ : ∃ b : Bool, b = (inI A_s_.to 0 (IntKind.i64.wrap (A_p.values - 1))) := ⟨_, rfl⟩
    obtain ⟨β6, hβ6⟩ : ∃ b : Bool, b = ((inI A_s_.node.kind 0 4) && β5) := ⟨_, rfl⟩
    obtain ⟨β7, hβ7⟩ : ∃ b : Bool, b = (inI A_s_.a 0 (IntKind.i64.wrap (A_p.points - 1))) := ⟨_, rfl⟩
    obtain ⟨β8, hβ8⟩ : ∃ b : Bool, b = ((β6 && β7) && (icmp .eql A_s_.b 0)) := ⟨_, rfl⟩
    refine region_draw (
      [Fact.pure [] (fun v => v = (Pt s__b s__o)),
    Fact.pure [55] (fun v => v = (Pt s__b s__o)),
    Fact.pure [56] (fun v => v = (Pt s__b (s__o + 4))),
    Fact.pure [57] (fun v => v = (Pt s__b (s__o + 4))),
    Fact.pure [58] (fun v => v = (Iv A_s_.node.kind)),
    Fact.pure [59] (fun v => v = (Bo (inI A_s_.node.kind 0 4))),
    Fact.pure [60] (fun v => v = (Bo (inI A_s_.node.kind 0 4))),
    Fact.pure [61] (fun v => (inI A_s_.node.kind 0 4) = true → v = (Pt s__b s__o)),
    Fact.pure [62, 61] (fun v => (inI A_s_.node.kind 0 4) = true → v = (Pt s__b s__o)),
    Fact.pure [63, 61] (fun v => (inI A_s_.node.kind 0 4) = true → v = (Pt s__b (s__o + 1))),
    Fact.pure [64, 61] (fun v => (inI A_s_.node.kind 0 4) = true → v = (Iv A_s_.to)),
    Fact.pure [61] (fun v => (inI A_s_.node.kind 0 4) = true → v = (Pt p_b p_o)),
    Fact.pure [66, 61] (fun v => (inI A_s_.node.kind 0 4) = true → v = (Pt p_b p_o)),
    Fact.pure [67, 61] (fun v => (inI A_s_.node.kind 0 4) = true → v = (Pt p_b (p_o + 1))),
    Fact.pure [68, 61] (fun v => (inI A_s_.node.kind 0 4) = true → v = (Iv A_p.values)),
    Fact.pure [69, 61] (fun v => (inI A_s_.node.kind 0 4) = true → v = (Iv (IntKind.i64.wrap (A_p.values - 1)))),
    Fact.pure [65, 70, 61] (fun v => (inI A_s_.node.kind 0 4) = true → v = (Bo β5)),
    Fact.pure [61, 71] (fun v => v = (Bo β6)),
    Fact.pure [72] (fun v => v = (Bo β6)),
    Fact.pure [73] (fun v => β6 = true → v = (Pt s__b s__o)),
    Fact.pure [74, 73] (fun v => β6 = true → v = (Pt s__b s__o)),
    Fact.pure [75, 73] (fun v => β6 = true → v = (Pt s__b (s__o + 2))),
    Fact.pure [76, 73] (fun v => β6 = true → v = (Iv A_s_.a)),
    Fact.pure [73] (fun v => β6 = true → v = (Pt p_b p_o)),
    Fact.pure [78, 73] (fun v => β6 = true → v = (Pt p_b p_o)),
    Fact.pure [79, 73] (fun v => β6 = true → v = (Pt p_b p_o)),
    Fact.pure [80, 73] (fun v => β6 = true → v = (Iv A_p.points)),
    Fact.pure [81, 73] (fun v => β6 = true → v = (Iv (IntKind.i64.wrap (A_p.points - 1)))),
    Fact.pure [77, 82, 73] (fun v => β6 = true → v = (Bo β7)),
    Fact.pure [73, 83] (fun v => v = (Bo (β6 && β7))),
    Fact.pure [84] (fun v => v = (Bo (β6 && β7))),
    Fact.pure [85] (fun v => (β6 && β7) = true → v = (Pt s__b s__o)),
    Fact.pure [86, 85] (fun v => (β6 && β7) = true → v = (Pt s__b s__o)),
    Fact.pure [87, 85] (fun v => (β6 && β7) = true → v = (Pt s__b (s__o + 3))),
    Fact.pure [88, 85] (fun v => (β6 && β7) = true → v = (Iv A_s_.b)),
    Fact.pure [89, 85] (fun v => (β6 && β7) = true → v = (Bo (icmp .eql A_s_.b 0))),
    Fact.pure [85, 90] (fun v => v = (Bo β8))]) mixed (by kernel_rfl) (by intro _ _ d _ _ h; cases d <;> exact h) ?_
    obtain ⟨w75, hw77⟩ : ∃ w', w' = World.drew w15 := ⟨_, rfl⟩; rw [← hw77]; have E76 : Ext w15 w75 := by rw [hw77]; exact Ext.draw _
    clear hw77
    have X78 := Ext.gr X16 E76
    refine RW_d _ rfl (fun v => by dsimp only [List.set]; try rfl) (fun u hu hF => ?_) (fun v79 => ?_)
    · clear hF
      refine doesG_un rfl ?_
      refine (does_move (u := (Pt s__b s__o)) (ev rfl)).mono ?_; rintro _ _ ⟨rfl, rfl⟩
      exact ⟨rfl, Ext.refl _⟩
    refine RW_d _ rfl (fun v => by dsimp only [List.set]; try rfl) (fun u hu hF => ?_) (fun v80 => ?_)
    · have h55_ : v79 = (Pt s__b s__o) := hF.1
      clear hF
      refine doesG_un rfl ?_
      obtain rfl := h55_
      refine (does_nilCheck (ev rfl)).mono ?_; rintro _ _ ⟨rfl, rfl⟩
      exact ⟨rfl, Ext.refl _⟩
    refine RW_d _ rfl (fun v => by dsimp only [List.set]; try rfl) (fun u hu hF => ?_) (fun v81 => ?_)
    · have h56_ : v80 = (Pt s__b s__o) := hF.1
      clear hF
      refine doesG_un rfl ?_
      obtain rfl := h56_
      refine (does_fieldAddr (ev rfl) fa100_4).mono ?_; rintro _ _ ⟨rfl, rfl⟩
      exact ⟨rfl, Ext.refl _⟩
    refine RW_d _ rfl (fun v => by dsimp only [List.set]; try rfl) (fun u hu hF => ?_) (fun v82 => ?_)
    · have h57_ : v81 = (Pt s__b (s__o + 4)) := hF.1
      clear hF
      refine doesG_un rfl ?_
      obtain rfl := h57_
      refine (does_fieldAddr (ev rfl) fa27_0).mono ?_; rintro _ _ ⟨rfl, rfl⟩
      exact ⟨rfl, Ext.refl _⟩
    refine RW_d _ rfl (fun v => by dsimp only [List.set]; try rfl) (fun u hu hF => ?_) (fun v83 => ?_)
    · have h58_ : v82 = (Pt s__b (s__o + 4)) := hF.1
      clear hF
      refine doesG_un rfl ?_
      obtain rfl := h58_
      refine (does_load (u := (Iv A_s_.node.kind)) (ev rfl) Try.isAgg2 (Cells.at ((hc_s_.ext (Ext.gr X16 E76)).ext hu) 4 rfl)).mono ?_; rintro _ _ ⟨rfl, rfl⟩
      exact ⟨rfl, Ext.refl _⟩
    refine RW_d _ rfl (fun v => by dsimp only [List.set]; try rfl) (fun u hu hF => ?_) (fun v84 => ?_)
    · have h59_ : v83 = (Iv A_s_.node.kind) := hF.1
      clear hF
      refine doesG_un rfl ?_
      obtain rfl := h59_
      refine (does_call (args := #[(Iv A_s_.node.kind)]) cal103 (evs rfl) (c_spec_l02Leaf A_s_.node.kind _)).mono ?_; rintro v u' ⟨hx, hv⟩
      exact ⟨hv, hx⟩
    refine RW_d _ rfl (fun v => by dsimp only [List.set]; try rfl) (fun u hu hF => ?_) (fun v85 => ?_)
    · have h60_ : v84 = (Bo (inI A_s_.node.kind 0 4)) := hF.1
      clear hF
      refine doesG_un rfl ?_
      obtain rfl := h60_
      refine (does_move (u := (Bo (inI A_s_.node.kind 0 4))) (ev rfl)).mono ?_; rintro _ _ ⟨rfl, rfl⟩
      exact ⟨rfl, Ext.refl _⟩
    refine RW_d _ rfl (fun v => by dsimp only [List.set]; try rfl) (fun u hu hF => ?_) (fun v86 => ?_)
    · have h61_ : v85 = (Bo (inI A_s_.node.kind 0 4)) := hF.1
      clear hF
      obtain rfl := h61_
      refine doesG_g (b := (inI A_s_.node.kind 0 4)) rfl (yld rfl rfl) (fun hg1 => ?_) (fun hc => ⟨fun hg1 => absurd hg1 hc, Ext.refl _⟩)
      refine (does_move (u := (Pt s__b s__o)) (ev rfl)).mono ?_; rintro _ _ ⟨rfl, rfl⟩
      exact ⟨fun _ => rfl, Ext.refl _⟩
    refine RW_d _ rfl (fun v => by dsimp only [List.set]; try rfl) (fun u hu hF => ?_) (fun v87 => ?_)
    · have h62_ : (inI A_s_.node.kind 0 4) = true → v86 = (Pt s__b s__o) := hF.1
      have h61_ : v85 = (Bo (inI A_s_.node.kind 0 4)) := hF.2.1
      clear hF
      obtain rfl := h61_
      refine doesG_g (b := (inI A_s_.node.kind 0 4)) rfl (yld rfl rfl) (fun hg1 => ?_) (fun hc => ⟨fun hg1 => absurd hg1 hc, Ext.refl _⟩)
      obtain rfl := h62_ hg1
      refine (does_nilCheck (ev rfl)).mono ?_; rintro _ _ ⟨rfl, rfl⟩
      exact ⟨fun _ => rfl, Ext.refl _⟩
    refine RW_d _ rfl (fun v => by dsimp only [List.set]; try rfl) (fun u hu hF => ?_) (fun v88 => ?_)
    · have h63_ : (inI A_s_.node.kind 0 4) = true → v87 = (Pt s__b s__o) := hF.1
      have h61_ : v85 = (Bo (inI A_s_.node.kind 0 4)) := hF.2.1
      clear hF
      obtain rfl := h61_
      refine doesG_g (b := (inI A_s_.node.kind 0 4)) rfl (yld rfl rfl) (fun hg1 => ?_) (fun hc => ⟨fun hg1 => absurd hg1 hc, Ext.refl _⟩)
      obtain rfl := h63_ hg1
      refine (does_fieldAddr (ev rfl) fa100_1).mono ?_; rintro _ _ ⟨rfl, rfl⟩
      exact ⟨fun _ => rfl, Ext.refl _⟩
    refine RW_d _ rfl (fun v => by dsimp only [List.set]; try rfl) (fun u hu hF => ?_) (fun v89 => ?_)
    · have h64_ : (inI A_s_.node.kind 0 4) = true → v88 = (Pt s__b (s__o + 1)) := hF.1
      have h61_ : v85 = (Bo (inI A_s_.node.kind 0 4)) := hF.2.1
      clear hF
      obtain rfl := h61_
      refine doesG_g (b := (inI A_s_.node.kind 0 4)) rfl (yld rfl rfl) (fun hg1 => ?_) (fun hc => ⟨fun hg1 => absurd hg1 hc, Ext.refl _⟩)
      obtain rfl := h64_ hg1
      refine (does_load (u := (Iv A_s_.to)) (ev rfl) Try.isAgg2 (Cells.at ((hc_s_.ext (Ext.gr X16 E76)).ext hu) 1 rfl)).mono ?_; rintro _ _ ⟨rfl, rfl⟩
      exact ⟨fun _ => rfl, Ext.refl _⟩
    refine RW_d _ rfl (fun v => by dsimp only [List.set]; try rfl) (fun u hu hF => ?_) (fun v90 => ?_)
    · have h61_ : v85 = (Bo (inI A_s_.node.kind 0 4)) := hF.1
      clear hF
      obtain rfl := h61_
      refine doesG_g (b := (inI A_s_.node.kind 0 4)) rfl (yld rfl rfl) (fun hg1 => ?_) (fun hc => ⟨fun hg1 => absurd hg1 hc, Ext.refl _⟩)
      refine (does_move (u := (Pt p_b p_o)) (ev rfl)).mono ?_; rintro _ _ ⟨rfl, rfl⟩
      exact ⟨fun _ => rfl, Ext.refl _⟩
    refine RW_d _ rfl (fun v => by dsimp only [List.set]; try rfl) (fun u hu hF => ?_) (fun v91 => ?_)
    · have h66_ : (inI A_s_.node.kind 0 4) = true → v90 = (Pt p_b p_o) := hF.1
      have h61_ : v85 = (Bo (inI A_s_.node.kind 0 4)) := hF.2.1
      clear hF
      obtain rfl := h61_
      refine doesG_g (b := (inI A_s_.node.kind 0 4)) rfl (yld rfl rfl) (fun hg1 => ?_) (fun hc => ⟨fun hg1 => absurd hg1 hc, Ext.refl _⟩)
      obtain rfl := h66_ hg1
      refine (does_nilCheck (ev rfl)).mono ?_; rintro _ _ ⟨rfl, rfl⟩
      exact ⟨fun _ => rfl, Ext.refl _⟩
    refine RW_d _ rfl (fun v => by dsimp only [List.set]; try rfl) (fun u hu hF => ?_) (fun v92 => ?_)
    · have h67_ : (inI A_s_.node.kind 0 4) = true → v91 = (Pt p_b p_o) := hF.1
      have h61_ : v85 = (Bo (inI A_s_.node.kind 0 4)) := hF.2.1
      clear hF
      obtain rfl := h61_
      refine doesG_g (b := (inI A_s_.node.kind 0 4)) rfl (yld rfl rfl) (fun hg1 => ?_) (fun hc => ⟨fun hg1 => absurd hg1 hc, Ext.refl _⟩)
      obtain rfl := h67_ hg1
      refine (does_fieldAddr (ev rfl) fa38_1).mono ?_; rintro _ _ ⟨rfl, rfl⟩
      exact ⟨fun _ => rfl, Ext.refl _⟩
    refine RW_d _ rfl (fun v => by dsimp only [List.set]; try rfl) (fun u hu hF => ?_) (fun v93 => ?_)
    · have h68_ : (inI A_s_.node.kind 0 4) = true → v92 = (Pt p_b (p_o + 1)) := hF.1
      have h61_ : v85 = (Bo (inI A_s_.node.kind 0 4)) := hF.2.1
      clear hF
      obtain rfl := h61_
      refine doesG_g (b := (inI A_s_.node.kind 0 4)) rfl (yld rfl rfl) (fun hg1 => ?_) (fun hc => ⟨fun hg1 => absurd hg1 hc, Ext.refl _⟩)
      obtain rfl := h68_ hg1
      refine (does_load (u := (Iv A_p.values)) (ev rfl) Try.isAgg2 (Cells.at ((hc_p.ext (Ext.gr X16 E76)).ext hu) 1 rfl)).mono ?_; rintro _ _ ⟨rfl, rfl⟩
      exact ⟨fun _ => rfl, Ext.refl _⟩
    refine RW_d _ rfl (fun v => by dsimp only [List.set]; try rfl) (fun u hu hF => ?_) (fun v94 => ?_)
    · have h69_ : (inI A_s_.node.kind 0 4) = true → v93 = (Iv A_p.values) := hF.1
      have h61_ : v85 = (Bo (inI A_s_.node.kind 0 4)) := hF.2.1
      clear hF
      obtain rfl := h61_
      refine doesG_g (b := (inI A_s_.node.kind 0 4)) rfl (yld rfl rfl) (fun hg1 => ?_) (fun hc => ⟨fun hg1 => absurd hg1 hc, Ext.refl _⟩)
      obtain rfl := h69_ hg1
      refine (does_iarith (p := A_p.values) (q := 1) (r := IntKind.i64.wrap (A_p.values - 1)) (ev rfl) (ev rfl) (.inr (.inl ⟨rfl, rfl⟩))).mono ?_; rintro _ _ ⟨rfl, rfl⟩
      exact ⟨fun _ => rfl, Ext.refl _⟩
    refine RW_d _ rfl (fun v => by dsimp only [List.set]; try rfl) (fun u hu hF => ?_) (fun v95 => ?_)
    · have h65_ : (inI A_s_.node.kind 0 4) = true → v89 = (Iv A_s_.to) := hF.1
      have h70_ : (inI A_s_.node.kind 0 4) = true → v94 = (Iv (IntKind.i64.wrap (A_p.values - 1))) := hF.2.1
      have h61_ : v85 = (Bo (inI A_s_.node.kind 0 4)) := hF.2.2.1
      clear hF
      obtain rfl := h61_
      refine doesG_g (b := (inI A_s_.node.kind 0 4)) rfl (yld rfl rfl) (fun hg1 => ?_) (fun hc => ⟨fun hg1 => absurd hg1 hc, Ext.refl _⟩)
      obtain rfl := h65_ hg1
      obtain rfl := h70_ hg1
      refine (does_call (args := #[(Iv A_s_.to), (Iv 0), (Iv (IntKind.i64.wrap (A_p.values - 1)))]) cal97 (evs rfl) (c_spec_l00In A_s_.to 0 (IntKind.i64.wrap (A_p.values - 1)) _)).mono ?_; rintro v u' ⟨hx, hv⟩
      exact ⟨fun _ => hv.trans (by simp only [hβ5]), hx⟩
    refine RW_d _ rfl (fun v => by dsimp only [List.set]; try rfl) (fun u hu hF => ?_) (fun v96 => ?_)
    · have h61_ : v85 = (Bo (inI A_s_.node.kind 0 4)) := hF.1
      have h71_ : (inI A_s_.node.kind 0 4) = true → v95 = (Bo β5) := hF.2.1
      clear hF
      refine doesG_un rfl ?_
      skip
      obtain rfl := h61_
      refine (does_pick (b := (inI A_s_.node.kind 0 4)) (ev rfl) (ev rfl) (ev rfl)).mono ?_; rintro _ _ ⟨rfl, rfl⟩; refine ⟨?_, Ext.refl _⟩; rw [hβ6]; skip
      cases hbb : (inI A_s_.node.kind 0 4) <;> simp [hbb] at h71_ ⊢
      all_goals (first | rfl | (subst h71_; rfl) | simp_all)
    refine RW_d _ rfl (fun v => by dsimp only [List.set]; try rfl) (fun u hu hF => ?_) (fun v97 => ?_)
    · have h72_ : v96 = (Bo β6) := hF.1
      clear hF
      refine doesG_un rfl ?_
      obtain rfl := h72_
      refine (does_move (u := (Bo β6)) (ev rfl)).mono ?_; rintro _ _ ⟨rfl, rfl⟩
      exact ⟨rfl, Ext.refl _⟩
    refine RW_d _ rfl (fun v => by dsimp only [List.set]; try rfl) (fun u hu hF => ?_) (fun v98 => ?_)
    · have h73_ : v97 = (Bo β6) := hF.1
      clear hF
      obtain rfl := h73_
      refine doesG_g (b := β6) rfl (yld rfl rfl) (fun hg1 => ?_) (fun hc => ⟨fun hg1 => absurd hg1 hc, Ext.refl _⟩)
      refine (does_move (u := (Pt s__b s__o)) (ev rfl)).mono ?_; rintro _ _ ⟨rfl, rfl⟩
      exact ⟨fun _ => rfl, Ext.refl _⟩
    refine RW_d _ rfl (fun v => by dsimp only [List.set]; try rfl) (fun u hu hF => ?_) (fun v99 => ?_)
    · have h74_ : β6 = true → v98 = (Pt s__b s__o) := hF.1
      have h73_ : v97 = (Bo β6) := hF.2.1
      clear hF
      obtain rfl := h73_
      refine doesG_g (b := β6) rfl (yld rfl rfl) (fun hg1 => ?_) (fun hc => ⟨fun hg1 => absurd hg1 hc, Ext.refl _⟩)
      obtain rfl := h74_ hg1
      refine (does_nilCheck (ev rfl)).mono ?_; rintro _ _ ⟨rfl, rfl⟩
      exact ⟨fun _ => rfl, Ext.refl _⟩
    refine RW_d _ rfl (fun v => by dsimp only [List.set]; try rfl) (fun u hu hF => ?_) (fun v100 => ?_)
    · have h75_ : β6 = true → v99 = (Pt s__b s__o) := hF.1
      have h73_ : v97 = (Bo β6) := hF.2.1
      clear hF
      obtain rfl := h73_
      refine doesG_g (b := β6) rfl (yld rfl rfl) (fun hg1 => ?_) (fun hc => ⟨fun hg1 => absurd hg1 hc, Ext.refl _⟩)
      obtain rfl := h75_ hg1
      refine (does_fieldAddr (ev rfl) fa100_2).mono ?_; rintro _ _ ⟨rfl, rfl⟩
      exact ⟨fun _ => rfl, Ext.refl _⟩
    refine RW_d _ rfl (fun v => by dsimp only [List.set]; try rfl) (fun u hu hF => ?_) (fun v101 => ?_)
    · have h76_ : β6 = true → v100 = (Pt s__b (s__o + 2)) := hF.1
      have h73_ : v97 = (Bo β6) := hF.2.1
      clear hF
      obtain rfl := h73_
      refine doesG_g (b := β6) rfl (yld rfl rfl) (fun hg1 => ?_) (fun hc => ⟨fun hg1 => absurd hg1 hc, Ext.refl _⟩)
      obtain rfl := h76_ hg1
      refine (does_load (u := (Iv A_s_.a)) (ev rfl) Try.isAgg2 (Cells.at ((hc_s_.ext (Ext.gr X16 E76)).ext hu) 2 rfl)).mono ?_; rintro _ _ ⟨rfl, rfl⟩
      exact ⟨fun _ => rfl, Ext.refl _⟩
    refine RW_d _ rfl (fun v => by dsimp only [List.set]; try rfl) (fun u hu hF => ?_) (fun v102 => ?_)
    · have h73_ : v97 = (Bo β6) := hF.1
      clear hF
      obtain rfl := h73_
      refine doesG_g (b := β6) rfl (yld rfl rfl) (fun hg1 => ?_) (fun hc => ⟨fun hg1 => absurd hg1 hc, Ext.refl _⟩)
      refine (does_move (u := (Pt p_b p_o)) (ev rfl)).mono ?_; rintro _ _ ⟨rfl, rfl⟩
      exact ⟨fun _ => rfl, Ext.refl _⟩
    refine RW_d _ rfl (fun v => by dsimp only [List.set]; try rfl) (fun u hu hF => ?_) (fun v103 => ?_)
    · have h78_ : β6 = true → v102 = (Pt p_b p_o) := hF.1
      have h73_ : v97 = (Bo β6) := hF.2.1
      clear hF
      obtain rfl := h73_
      refine doesG_g (b := β6) rfl (yld rfl rfl) (fun hg1 => ?_) (fun hc => ⟨fun hg1 => absurd hg1 hc, Ext.refl _⟩)
      obtain rfl := h78_ hg1
      refine (does_nilCheck (ev rfl)).mono ?_; rintro _ _ ⟨rfl, rfl⟩
      exact ⟨fun _ => rfl, Ext.refl _⟩
    refine RW_d _ rfl (fun v => by dsimp only [List.set]; try rfl) (fun u hu hF => ?_) (fun v104 => ?_)
    · have h79_ : β6 = true → v103 = (Pt p_b p_o) := hF.1
      have h73_ : v97 = (Bo β6) := hF.2.1
      clear hF
      obtain rfl := h73_
      refine doesG_g (b := β6) rfl (yld rfl rfl) (fun hg1 => ?_) (fun hc => ⟨fun hg1 => absurd hg1 hc, Ext.refl _⟩)
      obtain rfl := h79_ hg1
      refine (does_fieldAddr (ev rfl) fa38_0).mono ?_; rintro _ _ ⟨rfl, rfl⟩
      exact ⟨fun _ => rfl, Ext.refl _⟩
    refine RW_d _ rfl (fun v => by dsimp only [List.set]; try rfl) (fun u hu hF => ?_) (fun v105 => ?_)
    · have h80_ : β6 = true → v104 = (Pt p_b p_o) := hF.1
      have h73_ : v97 = (Bo β6) := hF.2.1
      clear hF
      obtain rfl := h73_
      refine doesG_g (b := β6) rfl (yld rfl rfl) (fun hg1 => ?_) (fun hc => ⟨fun hg1 => absurd hg1 hc, Ext.refl _⟩)
      obtain rfl := h80_ hg1
      refine (does_load (u := (Iv A_p.points)) (ev rfl) Try.isAgg2 (Cells.at ((hc_p.ext (Ext.gr X16 E76)).ext hu) 0 rfl)).mono ?_; rintro _ _ ⟨rfl, rfl⟩
      exact ⟨fun _ => rfl, Ext.refl _⟩
    refine RW_d _ rfl (fun v => by dsimp only [List.set]; try rfl) (fun u hu hF => ?_) (fun v106 => ?_)
    · have h81_ : β6 = true → v105 = (Iv A_p.points) := hF.1
      have h73_ : v97 = (Bo β6) := hF.2.1
      clear hF
      obtain rfl := h73_
      refine doesG_g (b := β6) rfl (yld rfl rfl) (fun hg1 => ?_) (fun hc => ⟨fun hg1 => absurd hg1 hc, Ext.refl _⟩)
      obtain rfl := h81_ hg1
      refine (does_iarith (p := A_p.points) (q := 1) (r := IntKind.i64.wrap (A_p.points - 1)) (ev rfl) (ev rfl) (.inr (.inl ⟨rfl, rfl⟩))).mono ?_; rintro _ _ ⟨rfl, rfl⟩
      exact ⟨fun _ => rfl, Ext.refl _⟩
    refine RW_d _ rfl (fun v => by dsimp only [List.set]; try rfl) (fun u hu hF => ?_) (fun v107 => ?_)
    · have h77_ : β6 = true → v101 = (Iv A_s_.a) := hF.1
      have h82_ : β6 = true → v106 = (Iv (IntKind.i64.wrap (A_p.points - 1))) := hF.2.1
      have h73_ : v97 = (Bo β6) := hF.2.2.1
      clear hF
      obtain rfl := h73_
      refine doesG_g (b := β6) rfl (yld rfl rfl) (fun hg1 => ?_) (fun hc => ⟨fun hg1 => absurd hg1 hc, Ext.refl _⟩)
      obtain rfl := h77_ hg1
      obtain rfl := h82_ hg1
      refine (does_call (args := #[(Iv A_s_.a), (Iv 0), (Iv (IntKind.i64.wrap (A_p.points - 1)))]) cal97 (evs rfl) (c_spec_l00In A_s_.a 0 (IntKind.i64.wrap (A_p.points - 1)) _)).mono ?_; rintro v u' ⟨hx, hv⟩
      exact ⟨fun _ => hv.trans (by simp only [hβ7]), hx⟩
    refine RW_d _ rfl (fun v => by dsimp only [List.set]; try rfl) (fun u hu hF => ?_) (fun v108 => ?_)
    · have h73_ : v97 = (Bo β6) := hF.1
      have h83_ : β6 = true → v107 = (Bo β7) := hF.2.1
      clear hF
      refine doesG_un rfl ?_
      skip
      obtain rfl := h73_
      refine (does_pick (b := β6) (ev rfl) (ev rfl) (ev rfl)).mono ?_; rintro _ _ ⟨rfl, rfl⟩; refine ⟨?_, Ext.refl _⟩; skip
      cases hbb : β6 <;> simp [hbb] at h83_ ⊢
      all_goals (first | rfl | (subst h83_; rfl) | simp_all)
    refine RW_d _ rfl (fun v => by dsimp only [List.set]; try rfl) (fun u hu hF => ?_) (fun v109 => ?_)
    · have h84_ : v108 = (Bo (β6 && β7)) := hF.1
      clear hF
      refine doesG_un rfl ?_
      obtain rfl := h84_
      refine (does_move (u := (Bo (β6 && β7))) (ev rfl)).mono ?_; rintro _ _ ⟨rfl, rfl⟩
      exact ⟨rfl, Ext.refl _⟩
    refine RW_d _ rfl (fun v => by dsimp only [List.set]; try rfl) (fun u hu hF => ?_) (fun v110 => ?_)
    · have h85_ : v109 = (Bo (β6 && β7)) := hF.1
      clear hF
      obtain rfl := h85_
      refine doesG_g (b := (β6 && β7)) rfl (yld rfl rfl) (fun hg1 => ?_) (fun hc => ⟨fun hg1 => absurd hg1 hc, Ext.refl _⟩)
      refine (does_move (u := (Pt s__b s__o)) (ev rfl)).mono ?_; rintro _ _ ⟨rfl, rfl⟩
      exact ⟨fun _ => rfl, Ext.refl _⟩
    refine RW_d _ rfl (fun v => by dsimp only [List.set]; try rfl) (fun u hu hF => ?_) (fun v111 => ?_)
    · have h86_ : (β6 && β7) = true → v110 = (Pt s__b s__o) := hF.1
      have h85_ : v109 = (Bo (β6 && β7)) := hF.2.1
      clear hF
      obtain rfl := h85_
      refine doesG_g (b := (β6 && β7)) rfl (yld rfl rfl) (fun hg1 => ?_) (fun hc => ⟨fun hg1 => absurd hg1 hc, Ext.refl _⟩)
      obtain rfl := h86_ hg1
      refine (does_nilCheck (ev rfl)).mono ?_; rintro _ _ ⟨rfl, rfl⟩
      exact ⟨fun _ => rfl, Ext.refl _⟩
    refine RW_d _ rfl (fun v => by dsimp only [List.set]; try rfl) (fun u hu hF => ?_) (fun v112 => ?_)
    · have h87_ : (β6 && β7) = true → v111 = (Pt s__b s__o) := hF.1
      have h85_ : v109 = (Bo (β6 && β7)) := hF.2.1
      clear hF
      obtain rfl := h85_
      refine doesG_g (b := (β6 && β7)) rfl (yld rfl rfl) (fun hg1 => ?_) (fun hc => ⟨fun hg1 => absurd hg1 hc, Ext.refl _⟩)
      obtain rfl := h87_ hg1
      refine (does_fieldAddr (ev rfl) fa100_3).mono ?_; rintro _ _ ⟨rfl, rfl⟩
      exact ⟨fun _ => rfl, Ext.refl _⟩
    refine RW_d _ rfl (fun v => by dsimp only [List.set]; try rfl) (fun u hu hF => ?_) (fun v113 => ?_)
    · have h88_ : (β6 && β7) = true → v112 = (Pt s__b (s__o + 3)) := hF.1
      have h85_ : v109 = (Bo (β6 && β7)) := hF.2.1
      clear hF
      obtain rfl := h85_
      refine doesG_g (b := (β6 && β7)) rfl (yld rfl rfl) (fun hg1 => ?_) (fun hc => ⟨fun hg1 => absurd hg1 hc, Ext.refl _⟩)
      obtain rfl := h88_ hg1
      refine (does_load (u := (Iv A_s_.b)) (ev rfl) Try.isAgg2 (Cells.at ((hc_s_.ext (Ext.gr X16 E76)).ext hu) 3 rfl)).mono ?_; rintro _ _ ⟨rfl, rfl⟩
      exact ⟨fun _ => rfl, Ext.refl _⟩
    refine RW_d _ rfl (fun v => by dsimp only [List.set]; try rfl) (fun u hu hF => ?_) (fun v114 => ?_)
    · have h89_ : (β6 && β7) = true → v113 = (Iv A_s_.b) := hF.1
      have h85_ : v109 = (Bo (β6 && β7)) := hF.2.1
      clear hF
      obtain rfl := h85_
      refine doesG_g (b := (β6 && β7)) rfl (yld rfl rfl) (fun hg1 => ?_) (fun hc => ⟨fun hg1 => absurd hg1 hc, Ext.refl _⟩)
      obtain rfl := h89_ hg1
      refine (does_icmp (p := A_s_.b) (q := 0) (.inl rfl) (ev rfl) (ev rfl)).mono ?_; rintro _ _ ⟨rfl, rfl⟩
      exact ⟨fun _ => rfl, Ext.refl _⟩
    refine RW_d _ rfl (fun v => by dsimp only [List.set]; try rfl) (fun u hu hF => ?_) (fun v115 => ?_)
    · have h85_ : v109 = (Bo (β6 && β7)) := hF.1
      have h90_ : (β6 && β7) = true → v114 = (Bo (icmp .eql A_s_.b 0)) := hF.2.1
      clear hF
      refine doesG_un rfl ?_
      skip
      obtain rfl := h85_
      refine (does_pick (b := (β6 && β7)) (ev rfl) (ev rfl) (ev rfl)).mono ?_; rintro _ _ ⟨rfl, rfl⟩; refine ⟨?_, Ext.refl _⟩; rw [hβ8]; skip
      cases hbb : (β6 && β7) <;> simp [hbb] at h90_ ⊢
      all_goals (first | rfl | (subst h90_; rfl) | simp_all)
    refine RW_fin ?_; intro w116 E117 hP118
    obtain ⟨⟨⟨⟨⟨⟨⟨⟨⟨⟨⟨⟨⟨⟨⟨⟨⟨⟨⟨⟨⟨⟨⟨⟨⟨⟨⟨⟨⟨⟨⟨⟨⟨⟨⟨⟨⟨-, -⟩, -⟩, -⟩, -⟩, -⟩, -⟩, -⟩, -⟩, -⟩, -⟩, -⟩, -⟩, -⟩, -⟩, -⟩, -⟩, -⟩, -⟩, -⟩, -⟩, -⟩, -⟩, -⟩, -⟩, -⟩, -⟩, -⟩, -⟩, -⟩, -⟩, -⟩, -⟩, -⟩, -⟩, -⟩, -⟩, q119⟩ := hP118
    have X120 := Ext.gr X78 E117
    have q119 : v115 = (Bo β8) := q119
    obtain rfl := q119
    show wpList _ _ _ _ (fr [(Pt p_b p_o), (Pt s__b s__o), Ud, Ud, (Bo false), (Pt s__b s__o), (Pt s__b s__o), (Pt s__b (s__o + 4)), (Bo (nodeOk A_s_.node)), (Bo (!(nodeOk A_s_.node))), (Pt s__b s__o), (Pt s__b s__o), (Pt s__b s__o), (Iv A_s_.kind), (Bo (icmp .eql A_s_.kind 0)), (Bo (icmp .eql A_s_.kind 0)), Ud, Ud, Ud, Ud, Ud, Ud, Ud, Ud, Ud, Ud, Ud, Ud, Ud, Ud, Ud, Ud, Ud, Ud, Ud, Ud, Ud, Ud, Ud, Ud, Ud, Ud, Ud, Ud, Ud, Ud, Ud, Ud, Ud, Ud, Ud, Ud, Ud, (Bo (icmp .eql A_s_.kind 1)), (Bo (icmp .eql A_s_.kind 1)), v79, v80, v81, v82, v83, v84, v85, v86, v87, v88, v89, v90, v91, v92, v93, v94, v95, v96, v97, v98, v99, v100, v101, v102, v103, v104, v105, v106, v107, v108, v109, v110, v111, v112, v113, v114, (Bo β8), Ud, Ud, Ud, Ud, Ud, Ud, Ud, Ud, Ud, Ud, Ud, Ud, Ud, Ud, Ud, Ud, Ud, Ud, Ud, Ud, Ud, Ud, Ud, Ud, Ud, Ud, Ud, Ud, Ud, Ud, Ud, Ud, Ud, Ud, Ud, Ud, Ud, Ud, Ud, Ud, Ud, Ud, Ud, Ud, Ud, Ud, Ud, Ud, Ud, Ud, Ud, Ud, Ud, Ud, Ud, Ud, Ud, Ud, Ud, Ud, Ud, Ud, Ud, Ud, Ud, Ud, Ud, Ud, Ud, Ud, Ud]) _
    refine q_is rfl rfl (does_assign (u := (Bo β8)) (ev rfl)) (by dsimp only [List.set]; try rfl) ?_
    refine wpList_nil (hK74 _ _ ?_)
    refine wp_ret ?_
    dsimp only [Exit.then, Exit.inBlock]
    refine ret_val (v := (Bo β8)) (res_T rfl (slot rfl)) X120 ?_
    try simp only [hβ5, hβ6, hβ7, hβ8] at c17 c23 c73
    have x121 : (stepOk A_p A_s_) = β8 := by first | exact stepOk_n (by assumption) | exact stepOk_2f (by assumption) (by assumption) | exact stepOk_x (by assumption) (by assumption) (by assumption) | (rw [stepOk_0 (by assumption) (by assumption)]; simp only [hβ5, hβ6, hβ7, hβ8, c17, c23, c73]; done) | (rw [stepOk_1 (by assumption) (by assumption)]; simp only [hβ5, hβ6, hβ7, hβ8, c17, c23, c73]; done) | (rw [stepOk_2t (by assumption) (by assumption) (by assumption), ‹inI A_s_.node.kind 5 8 = true›]; simp only [if_true, hβ5, hβ6, hβ7, hβ8, c17, c23, c73]; done) | (rw [stepOk_2t (by assumption) (by assumption) (by assumption), ‹inI A_s_.node.kind 5 8 = false›]; simp only [Bool.false_eq_true, if_false, hβ5, hβ6, hβ7, hβ8, c17, c23, c73]; done)
    exact (by first | rfl | rw [x121])
  have c73' := c73
  (try simp only [icmp, Bool.and_eq_true, Bool.or_eq_true, Bool.and_eq_false_iff, Bool.or_eq_false_iff, Bool.not_eq_true', Bool.not_eq_false', decide_eq_true_eq, decide_eq_false_iff_not, beq_iff_eq, bne_iff_ne, beq_eq_false_iff_ne, bne_eq_false_iff_eq] at c73')
  refine wp_seq_k fun K122 hK122 => ?_
  refine wp_region_lit ?_
  refine q_is rfl rfl (does_icmp (p := A_s_.kind) (q := 2) (.inl rfl) (ev rfl) (ev rfl)) (by dsimp only [List.set]; try rfl) ?_
  refine q_is rfl rfl (does_assign (u := (Bo (icmp .eql A_s_.kind 2))) (ev rfl)) (by dsimp only [List.set]; try rfl) ?_
  refine wpList_nil (hK122 _ _ ?_)
  refine wp_cond_split (t := icmp .eql A_s_.kind 2) (ev rfl) (fun c123 => ?_) (fun c123 => ?_)
  · have c123' := c123
    (try simp only [icmp, Bool.and_eq_true, Bool.or_eq_true, Bool.and_eq_false_iff, Bool.or_eq_false_iff, Bool.not_eq_true', Bool.not_eq_false', decide_eq_true_eq, decide_eq_false_iff_not, beq_iff_eq, bne_iff_ne, beq_eq_false_iff_ne, bne_eq_false_iff_eq] at c123')
    refine wp_seq_k fun K124 hK124 => ?_
    refine wp_seq_k fun K125 hK125 => ?_
    obtain ⟨β9, hβ9⟩ : ∃ b : Bool, b = (icmp .neq A_s_.node.kind 10) := ⟨_, rfl⟩
    obtain ⟨β10, hβ10⟩ : ∃ b : Bool, b = ((ptsK A_s_.node.kind) && β9) := ⟨_, rfl⟩
    obtain ⟨β11, hβ11⟩ : ∃ b : Bool, b = ((inI A_s_.node.kind 0 4) || β10) := ⟨_, rfl⟩
    obtain ⟨β12, hβ12⟩ : ∃ b : Bool, b = (inI A_s_.to 0 (IntKind.i64.wrap (A_p.values - 1))) := ⟨_, rfl⟩
    obtain ⟨β13, hβ13⟩ : ∃ b : Bool, b = (inI A_s_.a 0 (IntKind.i64.wrap (A_p.values - 1))) := ⟨_, rfl⟩
    obtain ⟨β14, hβ14⟩ : ∃ b : Bool, b = ((β11 || (!β12)) || (!β13)) := ⟨_, rfl⟩
    refine region_draw (
      [Fact.pure [] (fun v => v = (Pt s__b s__o)),
    Fact.pure [94] (fun v => v = (Pt s__b s__o)),
    Fact.pure [95] (fun v => v = (Pt s__b (s__o + 4))),
    Fact.pure [96] (fun v => v = (Pt s__b (s__o + 4))),
    Fact.pure [97] (fun v => v = (Iv A_s_.node.kind)),
    Fact.pure [98] (fun v => v = (Bo (inI A_s_.node.kind 0 4))),
    Fact.pure [99] (fun v => v = (Bo (inI A_s_.node.kind 0 4))),
    Fact.pure [100] (fun v => (inI A_s_.node.kind 0 4) = false → v = (Pt s__b s__o)),
    Fact.pure [101, 100] (fun v => (inI A_s_.node.kind 0 4) = false → v = (Pt s__b s__o)),
    Fact.pure [102, 100] (fun v => (inI A_s_.node.kind 0 4) = false → v = (Pt s__b (s__o + 4))),
    Fact.pure [103, 100] (fun v => (inI A_s_.node.kind 0 4) = false → v = (Pt s__b (s__o + 4))),
    Fact.pure [104, 100] (fun v => (inI A_s_.node.kind 0 4) = false → v = (Iv A_s_.node.kind)),
    Fact.pure [105, 100] (fun v => (inI A_s_.node.kind 0 4) = false → v = (Bo (ptsK A_s_.node.kind))),
    Fact.pure [106, 100] (fun v => ((inI A_s_.node.kind 0 4) = false → v = (Bo (ptsK A_s_.node.kind))) ∧ (¬ ((inI A_s_.node.kind 0 4) = false) → v = undef)),
    Fact.pure [107] (fun v => (inI A_s_.node.kind 0 4) = false → (ptsK A_s_.node.kind) = true → v = (Pt s__b s__o)),
    Fact.pure [108, 107] (fun v => (inI A_s_.node.kind 0 4) = false → (ptsK A_s_.node.kind) = true → v = (Pt s__b s__o)),
    Fact.pure [109, 107] (fun v => (inI A_s_.node.kind 0 4) = false → (ptsK A_s_.node.kind) = true → v = (Pt s__b (s__o + 4))),
    Fact.pure [110, 107] (fun v => (inI A_s_.node.kind 0 4) = false → (ptsK A_s_.node.kind) = true → v = (Pt s__b (s__o + 4))),
    Fact.pure [111, 107] (fun v => (inI A_s_.node.kind 0 4) = false → (ptsK A_s_.node.kind) = true → v = (Iv A_s_.node.kind)),
    Fact.pure [112, 107] (fun v => (inI A_s_.node.kind 0 4) = false → (ptsK A_s_.node.kind) = true → v = (Bo β9)),
    Fact.pure [107, 113, 100] (fun v => (inI A_s_.node.kind 0 4) = false → v = (Bo β10)),
    Fact.pure [100, 114] (fun v => v = (Bo β11)),
    Fact.pure [115] (fun v => v = (Bo β11)),
    Fact.pure [116] (fun v => β11 = false → v = (Pt s__b s__o)),
    Fact.pure [117, 116] (fun v => β11 = false → v = (Pt s__b s__o)),
    Fact.pure [118, 116] (fun v => β11 = false → v = (Pt s__b (s__o + 1))),
    Fact.pure [119, 116] (fun v => β11 = false → v = (Iv A_s_.to)),
    Fact.pure [116] (fun v => β11 = false → v = (Pt p_b p_o)),
    Fact.pure [121, 116] (fun v => β11 = false → v = (Pt p_b p_o)),
    Fact.pure [122, 116] (fun v => β11 = false → v = (Pt p_b (p_o + 1))),
    Fact.pure [123, 116] (fun v => β11 = false → v = (Iv A_p.values)),
    Fact.pure [124, 116] (fun v => β11 = false → v = (Iv (IntKind.i64.wrap (A_p.values - 1)))),
    Fact.pure [120, 125, 116] (fun v => β11 = false → v = (Bo β12)),
    Fact.pure [126, 116] (fun v => β11 = false → v = (Bo (!β12))),
    Fact.pure [116, 127] (fun v => v = (Bo (β11 || (!β12)))),
    Fact.pure [128] (fun v => v = (Bo (β11 || (!β12)))),
    Fact.pure [129] (fun v => (β11 || (!β12)) = false → v = (Pt s__b s__o)),
    Fact.pure [130, 129] (fun v => (β11 || (!β12)) = false → v = (Pt s__b s__o)),
    Fact.pure [131, 129] (fun v => (β11 || (!β12)) = false → v = (Pt s__b (s__o + 2))),
    Fact.pure [132, 129] (fun v => (β11 || (!β12)) = false → v = (Iv A_s_.a)),
    Fact.pure [129] (fun v => (β11 || (!β12)) = false → v = (Pt p_b p_o)),
    Fact.pure [134, 129] (fun v => (β11 || (!β12)) = false → v = (Pt p_b p_o)),
    Fact.pure [135, 129] (fun v => (β11 || (!β12)) = false → v = (Pt p_b (p_o + 1))),
    Fact.pure [136, 129] (fun v => (β11 || (!β12)) = false → v = (Iv A_p.values)),
    Fact.pure [137, 129] (fun v => (β11 || (!β12)) = false → v = (Iv (IntKind.i64.wrap (A_p.values - 1)))),
    Fact.pure [133, 138, 129] (fun v => (β11 || (!β12)) = false → v = (Bo β13)),
    Fact.pure [139, 129] (fun v => (β11 || (!β12)) = false → v = (Bo (!β13))),
    Fact.pure [129, 140] (fun v => v = (Bo β14))]) mixed (by kernel_rfl) (by intro _ _ d _ _ h; cases d <;> exact h) ?_
    obtain ⟨w126, hw128⟩ : ∃ w', w' = World.drew w15 := ⟨_, rfl⟩; rw [← hw128]; have E127 : Ext w15 w126 := by rw [hw128]; exact Ext.draw _
    clear hw128
    have X129 := Ext.gr X16 E127
    refine RW_d _ rfl (fun v => by dsimp only [List.set]; try rfl) (fun u hu hF => ?_) (fun v130 => ?_)
    · clear hF
      refine doesG_un rfl ?_
      refine (does_move (u := (Pt s__b s__o)) (ev rfl)).mono ?_; rintro _ _ ⟨rfl, rfl⟩
      exact ⟨rfl, Ext.refl _⟩
    refine RW_d _ rfl (fun v => by dsimp only [List.set]; try rfl) (fun u hu hF => ?_) (fun v131 => ?_)
    · have h94_ : v130 = (Pt s__b s__o) := hF.1
      clear hF
      refine doesG_un rfl ?_
      obtain rfl := h94_
      refine (does_nilCheck (ev rfl)).mono ?_; rintro _ _ ⟨rfl, rfl⟩
      exact ⟨rfl, Ext.refl _⟩
    refine RW_d _ rfl (fun v => by dsimp only [List.set]; try rfl) (fun u hu hF => ?_) (fun v132 => ?_)
    · have h95_ : v131 = (Pt s__b s__o) := hF.1
      clear hF
      refine doesG_un rfl ?_
      obtain rfl := h95_
      refine (does_fieldAddr (ev rfl) fa100_4).mono ?_; rintro _ _ ⟨rfl, rfl⟩
      exact ⟨rfl, Ext.refl _⟩
    refine RW_d _ rfl (fun v => by dsimp only [List.set]; try rfl) (fun u hu hF => ?_) (fun v133 => ?_)
    · have h96_ : v132 = (Pt s__b (s__o + 4)) := hF.1
      clear hF
      refine doesG_un rfl ?_
      obtain rfl := h96_
      refine (does_fieldAddr (ev rfl) fa27_0).mono ?_; rintro _ _ ⟨rfl, rfl⟩
      exact ⟨rfl, Ext.refl _⟩
    refine RW_d _ rfl (fun v => by dsimp only [List.set]; try rfl) (fun u hu hF => ?_) (fun v134 => ?_)
    · have h97_ : v133 = (Pt s__b (s__o + 4)) := hF.1
      clear hF
      refine doesG_un rfl ?_
      obtain rfl := h97_
      refine (does_load (u := (Iv A_s_.node.kind)) (ev rfl) Try.isAgg2 (Cells.at ((hc_s_.ext (Ext.gr X16 E127)).ext hu) 4 rfl)).mono ?_; rintro _ _ ⟨rfl, rfl⟩
      exact ⟨rfl, Ext.refl _⟩
    refine RW_d _ rfl (fun v => by dsimp only [List.set]; try rfl) (fun u hu hF => ?_) (fun v135 => ?_)
    · have h98_ : v134 = (Iv A_s_.node.kind) := hF.1
      clear hF
      refine doesG_un rfl ?_
      obtain rfl := h98_
      refine (does_call (args := #[(Iv A_s_.node.kind)]) cal103 (evs rfl) (c_spec_l02Leaf A_s_.node.kind _)).mono ?_; rintro v u' ⟨hx, hv⟩
      exact ⟨hv, hx⟩
    refine RW_d _ rfl (fun v => by dsimp only [List.set]; try rfl) (fun u hu hF => ?_) (fun v136 => ?_)
    · have h99_ : v135 = (Bo (inI A_s_.node.kind 0 4)) := hF.1
      clear hF
      refine doesG_un rfl ?_
      obtain rfl := h99_
      refine (does_move (u := (Bo (inI A_s_.node.kind 0 4))) (ev rfl)).mono ?_; rintro _ _ ⟨rfl, rfl⟩
      exact ⟨rfl, Ext.refl _⟩
    refine RW_d _ rfl (fun v => by dsimp only [List.set]; try rfl) (fun u hu hF => ?_) (fun v137 => ?_)
    · have h100_ : v136 = (Bo (inI A_s_.node.kind 0 4)) := hF.1
      clear hF
      obtain rfl := h100_
      refine doesG_g (b := (inI A_s_.node.kind 0 4)) rfl (yld rfl rfl) (fun hg1 => ?_) (fun hc => ⟨fun hg1 => absurd hg1 hc, Ext.refl _⟩)
      refine (does_move (u := (Pt s__b s__o)) (ev rfl)).mono ?_; rintro _ _ ⟨rfl, rfl⟩
      exact ⟨fun _ => rfl, Ext.refl _⟩
    refine RW_d _ rfl (fun v => by dsimp only [List.set]; try rfl) (fun u hu hF => ?_) (fun v138 => ?_)
    · have h101_ : (inI A_s_.node.kind 0 4) = false → v137 = (Pt s__b s__o) := hF.1
      have h100_ : v136 = (Bo (inI A_s_.node.kind 0 4)) := hF.2.1
      clear hF
      obtain rfl := h100_
      refine doesG_g (b := (inI A_s_.node.kind 0 4)) rfl (yld rfl rfl) (fun hg1 => ?_) (fun hc => ⟨fun hg1 => absurd hg1 hc, Ext.refl _⟩)
      obtain rfl := h101_ hg1
      refine (does_nilCheck (ev rfl)).mono ?_; rintro _ _ ⟨rfl, rfl⟩
      exact ⟨fun _ => rfl, Ext.refl _⟩
    refine RW_d _ rfl (fun v => by dsimp only [List.set]; try rfl) (fun u hu hF => ?_) (fun v139 => ?_)
    · have h102_ : (inI A_s_.node.kind 0 4) = false → v138 = (Pt s__b s__o) := hF.1
      have h100_ : v136 = (Bo (inI A_s_.node.kind 0 4)) := hF.2.1
      clear hF
      obtain rfl := h100_
      refine doesG_g (b := (inI A_s_.node.kind 0 4)) rfl (yld rfl rfl) (fun hg1 => ?_) (fun hc => ⟨fun hg1 => absurd hg1 hc, Ext.refl _⟩)
      obtain rfl := h102_ hg1
      refine (does_fieldAddr (ev rfl) fa100_4).mono ?_; rintro _ _ ⟨rfl, rfl⟩
      exact ⟨fun _ => rfl, Ext.refl _⟩
    refine RW_d _ rfl (fun v => by dsimp only [List.set]; try rfl) (fun u hu hF => ?_) (fun v140 => ?_)
    · have h103_ : (inI A_s_.node.kind 0 4) = false → v139 = (Pt s__b (s__o + 4)) := hF.1
      have h100_ : v136 = (Bo (inI A_s_.node.kind 0 4)) := hF.2.1
      clear hF
      obtain rfl := h100_
      refine doesG_g (b := (inI A_s_.node.kind 0 4)) rfl (yld rfl rfl) (fun hg1 => ?_) (fun hc => ⟨fun hg1 => absurd hg1 hc, Ext.refl _⟩)
      obtain rfl := h103_ hg1
      refine (does_fieldAddr (ev rfl) fa27_0).mono ?_; rintro _ _ ⟨rfl, rfl⟩
      exact ⟨fun _ => rfl, Ext.refl _⟩
    refine RW_d _ rfl (fun v => by dsimp only [List.set]; try rfl) (fun u hu hF => ?_) (fun v141 => ?_)
    · have h104_ : (inI A_s_.node.kind 0 4) = false → v140 = (Pt s__b (s__o + 4)) := hF.1
      have h100_ : v136 = (Bo (inI A_s_.node.kind 0 4)) := hF.2.1
      clear hF
      obtain rfl := h100_
      refine doesG_g (b := (inI A_s_.node.kind 0 4)) rfl (yld rfl rfl) (fun hg1 => ?_) (fun hc => ⟨fun hg1 => absurd hg1 hc, Ext.refl _⟩)
      obtain rfl := h104_ hg1
      refine (does_load (u := (Iv A_s_.node.kind)) (ev rfl) Try.isAgg2 (Cells.at ((hc_s_.ext (Ext.gr X16 E127)).ext hu) 4 rfl)).mono ?_; rintro _ _ ⟨rfl, rfl⟩
      exact ⟨fun _ => rfl, Ext.refl _⟩
    refine RW_d _ rfl (fun v => by dsimp only [List.set]; try rfl) (fun u hu hF => ?_) (fun v142 => ?_)
    · have h105_ : (inI A_s_.node.kind 0 4) = false → v141 = (Iv A_s_.node.kind) := hF.1
      have h100_ : v136 = (Bo (inI A_s_.node.kind 0 4)) := hF.2.1
      clear hF
      obtain rfl := h100_
      refine doesG_g (b := (inI A_s_.node.kind 0 4)) rfl (yld rfl rfl) (fun hg1 => ?_) (fun hc => ⟨fun hg1 => absurd hg1 hc, Ext.refl _⟩)
      obtain rfl := h105_ hg1
      refine (does_call (args := #[(Iv A_s_.node.kind)]) cal133 (evs rfl) (c_spec_l05Moves A_s_.node.kind _)).mono ?_; rintro v u' ⟨hx, hv⟩
      exact ⟨fun _ => hv, hx⟩
    refine RW_d _ rfl (fun v => by dsimp only [List.set]; try rfl) (fun u hu hF => ?_) (fun v143 => ?_)
    · have h106_ : (inI A_s_.node.kind 0 4) = false → v142 = (Bo (ptsK A_s_.node.kind)) := hF.1
      have h100_ : v136 = (Bo (inI A_s_.node.kind 0 4)) := hF.2.1
      clear hF
      obtain rfl := h100_
      refine doesG_g (b := (inI A_s_.node.kind 0 4)) rfl (yld rfl rfl) (fun hg1 => ?_) (fun hc => ⟨⟨fun hg1 => absurd hg1 hc, fun _ => rfl⟩, Ext.refl _⟩)
      obtain rfl := h106_ hg1
      refine (does_move (u := (Bo (ptsK A_s_.node.kind))) (ev rfl)).mono ?_; rintro _ _ ⟨rfl, rfl⟩
      exact ⟨⟨fun _ => rfl, fun hn => absurd hg1 hn⟩, Ext.refl _⟩
    refine RW_d _ rfl (fun v => by dsimp only [List.set]; try rfl) (fun u hu hF => ?_) (fun v144 => ?_)
    · have h107_ : ((inI A_s_.node.kind 0 4) = false → v143 = (Bo (ptsK A_s_.node.kind))) ∧ (¬ ((inI A_s_.node.kind 0 4) = false) → v143 = undef) := hF.1; have h107u := h107_.2; replace h107_ := h107_.1
      clear hF
      refine doesG_gg (b := (ptsK A_s_.node.kind)) (c := (inI A_s_.node.kind 0 4) = false) rfl (fun hc => ?_) (fun hc => ?_) (fun hc hg2 => ?_) (fun hc => ⟨fun hg1 hg2 => absurd ⟨hg1, hg2⟩ hc, Ext.refl _⟩)
      · have hg1 := hc; obtain rfl := h107_ hg1; exact yld rfl rfl
      · obtain rfl := h107u hc; exact yldn rfl rfl
      have hg1 := hc
      obtain rfl := h107_ hg1
      refine (does_move (u := (Pt s__b s__o)) (ev rfl)).mono ?_; rintro _ _ ⟨rfl, rfl⟩
      exact ⟨fun _ _ => rfl, Ext.refl _⟩
    refine RW_d _ rfl (fun v => by dsimp only [List.set]; try rfl) (fun u hu hF => ?_) (fun v145 => ?_)
    · have h108_ : (inI A_s_.node.kind 0 4) = false → (ptsK A_s_.node.kind) = true → v144 = (Pt s__b s__o) := hF.1
      have h107_ : ((inI A_s_.node.kind 0 4) = false → v143 = (Bo (ptsK A_s_.node.kind))) ∧ (¬ ((inI A_s_.node.kind 0 4) = false) → v143 = undef) := hF.2.1; have h107u := h107_.2; replace h107_ := h107_.1
      clear hF
      refine doesG_gg (b := (ptsK A_s_.node.kind)) (c := (inI A_s_.node.kind 0 4) = false) rfl (fun hc => ?_) (fun hc => ?_) (fun hc hg2 => ?_) (fun hc => ⟨fun hg1 hg2 => absurd ⟨hg1, hg2⟩ hc, Ext.refl _⟩)
      · have hg1 := hc; obtain rfl := h107_ hg1; exact yld rfl rfl
      · obtain rfl := h107u hc; exact yldn rfl rfl
      have hg1 := hc
      obtain rfl := h107_ hg1
      obtain rfl := h108_ hg1 hg2
      refine (does_nilCheck (ev rfl)).mono ?_; rintro _ _ ⟨rfl, rfl⟩
      exact ⟨fun _ _ => rfl, Ext.refl _⟩
    refine RW_d _ rfl (fun v => by dsimp only [List.set]; try rfl) (fun u hu hF => ?_) (fun v146 => ?_)
    · have h109_ : (inI A_s_.node.kind 0 4) = false → (ptsK A_s_.node.kind) = true → v145 = (Pt s__b s__o) := hF.1
      have h107_ : ((inI A_s_.node.kind 0 4) = false → v143 = (Bo (ptsK A_s_.node.kind))) ∧ (¬ ((inI A_s_.node.kind 0 4) = false) → v143 = undef) := hF.2.1; have h107u := h107_.2; replace h107_ := h107_.1
      clear hF
      refine doesG_gg (b := (ptsK A_s_.node.kind)) (c := (inI A_s_.node.kind 0 4) = false) rfl (fun hc => ?_) (fun hc => ?_) (fun hc hg2 => ?_) (fun hc => ⟨fun hg1 hg2 => absurd ⟨hg1, hg2⟩ hc, Ext.refl _⟩)
      · have hg1 := hc; obtain rfl := h107_ hg1; exact yld rfl rfl
      · obtain rfl := h107u hc; exact yldn rfl rfl
      have hg1 := hc
      obtain rfl := h107_ hg1
      obtain rfl := h109_ hg1 hg2
      refine (does_fieldAddr (ev rfl) fa100_4).mono ?_; rintro _ _ ⟨rfl, rfl⟩
      exact ⟨fun _ _ => rfl, Ext.refl _⟩
    refine RW_d _ rfl (fun v => by dsimp only [List.set]; try rfl) (fun u hu hF => ?_) (fun v147 => ?_)
    · have h110_ : (inI A_s_.node.kind 0 4) = false → (ptsK A_s_.node.kind) = true → v146 = (Pt s__b (s__o + 4)) := hF.1
      have h107_ : ((inI A_s_.node.kind 0 4) = false → v143 = (Bo (ptsK A_s_.node.kind))) ∧ (¬ ((inI A_s_.node.kind 0 4) = false) → v143 = undef) := hF.2.1; have h107u := h107_.2; replace h107_ := h107_.1
      clear hF
      refine doesG_gg (b := (ptsK A_s_.node.kind)) (c := (inI A_s_.node.kind 0 4) = false) rfl (fun hc => ?_) (fun hc => ?_) (fun hc hg2 => ?_) (fun hc => ⟨fun hg1 hg2 => absurd ⟨hg1, hg2⟩ hc, Ext.refl _⟩)
      · have hg1 := hc; obtain rfl := h107_ hg1; exact yld rfl rfl
      · obtain rfl := h107u hc; exact yldn rfl rfl
      have hg1 := hc
      obtain rfl := h107_ hg1
      obtain rfl := h110_ hg1 hg2
      refine (does_fieldAddr (ev rfl) fa27_0).mono ?_; rintro _ _ ⟨rfl, rfl⟩
      exact ⟨fun _ _ => rfl, Ext.refl _⟩
    refine RW_d _ rfl (fun v => by dsimp only [List.set]; try rfl) (fun u hu hF => ?_) (fun v148 => ?_)
    · have h111_ : (inI A_s_.node.kind 0 4) = false → (ptsK A_s_.node.kind) = true → v147 = (Pt s__b (s__o + 4)) := hF.1
      have h107_ : ((inI A_s_.node.kind 0 4) = false → v143 = (Bo (ptsK A_s_.node.kind))) ∧ (¬ ((inI A_s_.node.kind 0 4) = false) → v143 = undef) := hF.2.1; have h107u := h107_.2; replace h107_ := h107_.1
      clear hF
      refine doesG_gg (b := (ptsK A_s_.node.kind)) (c := (inI A_s_.node.kind 0 4) = false) rfl (fun hc => ?_) (fun hc => ?_) (fun hc hg2 => ?_) (fun hc => ⟨fun hg1 hg2 => absurd ⟨hg1, hg2⟩ hc, Ext.refl _⟩)
      · have hg1 := hc; obtain rfl := h107_ hg1; exact yld rfl rfl
      · obtain rfl := h107u hc; exact yldn rfl rfl
      have hg1 := hc
      obtain rfl := h107_ hg1
      obtain rfl := h111_ hg1 hg2
      refine (does_load (u := (Iv A_s_.node.kind)) (ev rfl) Try.isAgg2 (Cells.at ((hc_s_.ext (Ext.gr X16 E127)).ext hu) 4 rfl)).mono ?_; rintro _ _ ⟨rfl, rfl⟩
      exact ⟨fun _ _ => rfl, Ext.refl _⟩
    refine RW_d _ rfl (fun v => by dsimp only [List.set]; try rfl) (fun u hu hF => ?_) (fun v149 => ?_)
    · have h112_ : (inI A_s_.node.kind 0 4) = false → (ptsK A_s_.node.kind) = true → v148 = (Iv A_s_.node.kind) := hF.1
      have h107_ : ((inI A_s_.node.kind 0 4) = false → v143 = (Bo (ptsK A_s_.node.kind))) ∧ (¬ ((inI A_s_.node.kind 0 4) = false) → v143 = undef) := hF.2.1; have h107u := h107_.2; replace h107_ := h107_.1
      clear hF
      refine doesG_gg (b := (ptsK A_s_.node.kind)) (c := (inI A_s_.node.kind 0 4) = false) rfl (fun hc => ?_) (fun hc => ?_) (fun hc hg2 => ?_) (fun hc => ⟨fun hg1 hg2 => absurd ⟨hg1, hg2⟩ hc, Ext.refl _⟩)
      · have hg1 := hc; obtain rfl := h107_ hg1; exact yld rfl rfl
      · obtain rfl := h107u hc; exact yldn rfl rfl
      have hg1 := hc
      obtain rfl := h107_ hg1
      obtain rfl := h112_ hg1 hg2
      refine (does_icmp (p := A_s_.node.kind) (q := 10) (.inr (.inl rfl)) (ev rfl) (ev rfl)).mono ?_; rintro _ _ ⟨rfl, rfl⟩
      exact ⟨fun _ _ => (by first | rfl | (show _ = _; simp only [hβ9])), Ext.refl _⟩
    refine RW_d _ rfl (fun v => by dsimp only [List.set]; try rfl) (fun u hu hF => ?_) (fun v150 => ?_)
    · have h107_ : ((inI A_s_.node.kind 0 4) = false → v143 = (Bo (ptsK A_s_.node.kind))) ∧ (¬ ((inI A_s_.node.kind 0 4) = false) → v143 = undef) := hF.1; have h107u := h107_.2; replace h107_ := h107_.1
      have h113_ : (inI A_s_.node.kind 0 4) = false → (ptsK A_s_.node.kind) = true → v149 = (Bo β9) := hF.2.1
      have h100_ : v136 = (Bo (inI A_s_.node.kind 0 4)) := hF.2.2.1
      clear hF
      obtain rfl := h100_
      refine doesG_g (b := (inI A_s_.node.kind 0 4)) rfl (yld rfl rfl) (fun hg1 => ?_) (fun hc => ⟨fun hg1 => absurd hg1 hc, Ext.refl _⟩)
      skip
      obtain rfl := h107_ hg1
      replace h113_ := h113_ hg1
      refine (does_pick (b := (ptsK A_s_.node.kind)) (ev rfl) (ev rfl) (ev rfl)).mono ?_; rintro _ _ ⟨rfl, rfl⟩; refine ⟨fun _ => ?_, Ext.refl _⟩; rw [hβ10]; skip
      cases hbb : (ptsK A_s_.node.kind) <;> simp [hbb] at h113_ ⊢
      all_goals (first | rfl | (subst h113_; rfl) | simp_all)
    refine RW_d _ rfl (fun v => by dsimp only [List.set]; try rfl) (fun u hu hF => ?_) (fun v151 => ?_)
    · have h100_ : v136 = (Bo (inI A_s_.node.kind 0 4)) := hF.1
      have h114_ : (inI A_s_.node.kind 0 4) = false → v150 = (Bo β10) := hF.2.1
      clear hF
      refine doesG_un rfl ?_
      skip
      obtain rfl := h100_
      refine (does_pick (b := (inI A_s_.node.kind 0 4)) (ev rfl) (ev rfl) (ev rfl)).mono ?_; rintro _ _ ⟨rfl, rfl⟩; refine ⟨?_, Ext.refl _⟩; rw [hβ11]; skip
      cases hbb : (inI A_s_.node.kind 0 4) <;> simp [hbb] at h114_ ⊢
      all_goals (first | rfl | (subst h114_; rfl) | simp_all)
    refine RW_d _ rfl (fun v => by dsimp only [List.set]; try rfl) (fun u hu hF => ?_) (fun v152 => ?_)
    · have h115_ : v151 = (Bo β11) := hF.1
      clear hF
      refine doesG_un rfl ?_
      obtain rfl := h115_
      refine (does_move (u := (Bo β11)) (ev rfl)).mono ?_; rintro _ _ ⟨rfl, rfl⟩
      exact ⟨rfl, Ext.refl _⟩
    refine RW_d _ rfl (fun v => by dsimp only [List.set]; try rfl) (fun u hu hF => ?_) (fun v153 => ?_)
    · have h116_ : v152 = (Bo β11) := hF.1
      clear hF
      obtain rfl := h116_
      refine doesG_g (b := β11) rfl (yld rfl rfl) (fun hg1 => ?_) (fun hc => ⟨fun hg1 => absurd hg1 hc, Ext.refl _⟩)
      refine (does_move (u := (Pt s__b s__o)) (ev rfl)).mono ?_; rintro _ _ ⟨rfl, rfl⟩
      exact ⟨fun _ => rfl, Ext.refl _⟩
    refine RW_d _ rfl (fun v => by dsimp only [List.set]; try rfl) (fun u hu hF => ?_) (fun v154 => ?_)
    · have h117_ : β11 = false → v153 = (Pt s__b s__o) := hF.1
      have h116_ : v152 = (Bo β11) := hF.2.1
      clear hF
      obtain rfl := h116_
      refine doesG_g (b := β11) rfl (yld rfl rfl) (fun hg1 => ?_) (fun hc => ⟨fun hg1 => absurd hg1 hc, Ext.refl _⟩)
      obtain rfl := h117_ hg1
      refine (does_nilCheck (ev rfl)).mono ?_; rintro _ _ ⟨rfl, rfl⟩
      exact ⟨fun _ => rfl, Ext.refl _⟩
    refine RW_d _ rfl (fun v => by dsimp only [List.set]; try rfl) (fun u hu hF => ?_) (fun v155 => ?_)
    · have h118_ : β11 = false → v154 = (Pt s__b s__o) := hF.1
      have h116_ : v152 = (Bo β11) := hF.2.1
      clear hF
      obtain rfl := h116_
      refine doesG_g (b := β11) rfl (yld rfl rfl) (fun hg1 => ?_) (fun hc => ⟨fun hg1 => absurd hg1 hc, Ext.refl _⟩)
      obtain rfl := h118_ hg1
      refine (does_fieldAddr (ev rfl) fa100_1).mono ?_; rintro _ _ ⟨rfl, rfl⟩
      exact ⟨fun _ => rfl, Ext.refl _⟩
    refine RW_d _ rfl (fun v => by dsimp only [List.set]; try rfl) (fun u hu hF => ?_) (fun v156 => ?_)
    · have h119_ : β11 = false → v155 = (Pt s__b (s__o + 1)) := hF.1
      have h116_ : v152 = (Bo β11) := hF.2.1
      clear hF
      obtain rfl := h116_
      refine doesG_g (b := β11) rfl (yld rfl rfl) (fun hg1 => ?_) (fun hc => ⟨fun hg1 => absurd hg1 hc, Ext.refl _⟩)
      obtain rfl := h119_ hg1
      refine (does_load (u := (Iv A_s_.to)) (ev rfl) Try.isAgg2 (Cells.at ((hc_s_.ext (Ext.gr X16 E127)).ext hu) 1 rfl)).mono ?_; rintro _ _ ⟨rfl, rfl⟩
      exact ⟨fun _ => rfl, Ext.refl _⟩
    refine RW_d _ rfl (fun v => by dsimp only [List.set]; try rfl) (fun u hu hF => ?_) (fun v157 => ?_)
    · have h116_ : v152 = (Bo β11) := hF.1
      clear hF
      obtain rfl := h116_
      refine doesG_g (b := β11) rfl (yld rfl rfl) (fun hg1 => ?_) (fun hc => ⟨fun hg1 => absurd hg1 hc, Ext.refl _⟩)
      refine (does_move (u := (Pt p_b p_o)) (ev rfl)).mono ?_; rintro _ _ ⟨rfl, rfl⟩
      exact ⟨fun _ => rfl, Ext.refl _⟩
    refine RW_d _ rfl (fun v => by dsimp only [List.set]; try rfl) (fun u hu hF => ?_) (fun v158 => ?_)
    · have h121_ : β11 = false → v157 = (Pt p_b p_o) := hF.1
      have h116_ : v152 = (Bo β11) := hF.2.1
      clear hF
      obtain rfl := h116_
      refine doesG_g (b := β11) rfl (yld rfl rfl) (fun hg1 => ?_) (fun hc => ⟨fun hg1 => absurd hg1 hc, Ext.refl _⟩)
      obtain rfl := h121_ hg1
      refine (does_nilCheck (ev rfl)).mono ?_; rintro _ _ ⟨rfl, rfl⟩
      exact ⟨fun _ => rfl, Ext.refl _⟩
    refine RW_d _ rfl (fun v => by dsimp only [List.set]; try rfl) (fun u hu hF => ?_) (fun v159 => ?_)
    · have h122_ : β11 = false → v158 = (Pt p_b p_o) := hF.1
      have h116_ : v152 = (Bo β11) := hF.2.1
      clear hF
      obtain rfl := h116_
      refine doesG_g (b := β11) rfl (yld rfl rfl) (fun hg1 => ?_) (fun hc => ⟨fun hg1 => absurd hg1 hc, Ext.refl _⟩)
      obtain rfl := h122_ hg1
      refine (does_fieldAddr (ev rfl) fa38_1).mono ?_; rintro _ _ ⟨rfl, rfl⟩
      exact ⟨fun _ => rfl, Ext.refl _⟩
    refine RW_d _ rfl (fun v => by dsimp only [List.set]; try rfl) (fun u hu hF => ?_) (fun v160 => ?_)
    · have h123_ : β11 = false → v159 = (Pt p_b (p_o + 1)) := hF.1
      have h116_ : v152 = (Bo β11) := hF.2.1
      clear hF
      obtain rfl := h116_
      refine doesG_g (b := β11) rfl (yld rfl rfl) (fun hg1 => ?_) (fun hc => ⟨fun hg1 => absurd hg1 hc, Ext.refl _⟩)
      obtain rfl := h123_ hg1
      refine (does_load (u := (Iv A_p.values)) (ev rfl) Try.isAgg2 (Cells.at ((hc_p.ext (Ext.gr X16 E127)).ext hu) 1 rfl)).mono ?_; rintro _ _ ⟨rfl, rfl⟩
      exact ⟨fun _ => rfl, Ext.refl _⟩
    refine RW_d _ rfl (fun v => by dsimp only [List.set]; try rfl) (fun u hu hF => ?_) (fun v161 => ?_)
    · have h124_ : β11 = false → v160 = (Iv A_p.values) := hF.1
      have h116_ : v152 = (Bo β11) := hF.2.1
      clear hF
      obtain rfl := h116_
      refine doesG_g (b := β11) rfl (yld rfl rfl) (fun hg1 => ?_) (fun hc => ⟨fun hg1 => absurd hg1 hc, Ext.refl _⟩)
      obtain rfl := h124_ hg1
      refine (does_iarith (p := A_p.values) (q := 1) (r := IntKind.i64.wrap (A_p.values - 1)) (ev rfl) (ev rfl) (.inr (.inl ⟨rfl, rfl⟩))).mono ?_; rintro _ _ ⟨rfl, rfl⟩
      exact ⟨fun _ => rfl, Ext.refl _⟩
    refine RW_d _ rfl (fun v => by dsimp only [List.set]; try rfl) (fun u hu hF => ?_) (fun v162 => ?_)
    · have h120_ : β11 = false → v156 = (Iv A_s_.to) := hF.1
      have h125_ : β11 = false → v161 = (Iv (IntKind.i64.wrap (A_p.values - 1))) := hF.2.1
      have h116_ : v152 = (Bo β11) := hF.2.2.1
      clear hF
      obtain rfl := h116_
      refine doesG_g (b := β11) rfl (yld rfl rfl) (fun hg1 => ?_) (fun hc => ⟨fun hg1 => absurd hg1 hc, Ext.refl _⟩)
      obtain rfl := h120_ hg1
      obtain rfl := h125_ hg1
      refine (does_call (args := #[(Iv A_s_.to), (Iv 0), (Iv (IntKind.i64.wrap (A_p.values - 1)))]) cal97 (evs rfl) (c_spec_l00In A_s_.to 0 (IntKind.i64.wrap (A_p.values - 1)) _)).mono ?_; rintro v u' ⟨hx, hv⟩
      exact ⟨fun _ => hv.trans (by simp only [hβ12]), hx⟩
    refine RW_d _ rfl (fun v => by dsimp only [List.set]; try rfl) (fun u hu hF => ?_) (fun v163 => ?_)
    · have h126_ : β11 = false → v162 = (Bo β12) := hF.1
      have h116_ : v152 = (Bo β11) := hF.2.1
      clear hF
      obtain rfl := h116_
      refine doesG_g (b := β11) rfl (yld rfl rfl) (fun hg1 => ?_) (fun hc => ⟨fun hg1 => absurd hg1 hc, Ext.refl _⟩)
      obtain rfl := h126_ hg1
      refine (does_not (ev rfl)).mono ?_; rintro _ _ ⟨rfl, rfl⟩
      exact ⟨fun _ => rfl, Ext.refl _⟩
    refine RW_d _ rfl (fun v => by dsimp only [List.set]; try rfl) (fun u hu hF => ?_) (fun v164 => ?_)
    · have h116_ : v152 = (Bo β11) := hF.1
      have h127_ : β11 = false → v163 = (Bo (!β12)) := hF.2.1
      clear hF
      refine doesG_un rfl ?_
      skip
      obtain rfl := h116_
      refine (does_pick (b := β11) (ev rfl) (ev rfl) (ev rfl)).mono ?_; rintro _ _ ⟨rfl, rfl⟩; refine ⟨?_, Ext.refl _⟩; skip
      cases hbb : β11 <;> simp [hbb] at h127_ ⊢
      all_goals (first | rfl | (subst h127_; rfl) | simp_all)
    refine RW_d _ rfl (fun v => by dsimp only [List.set]; try rfl) (fun u hu hF => ?_) (fun v165 => ?_)
    · have h128_ : v164 = (Bo (β11 || (!β12))) := hF.1
      clear hF
      refine doesG_un rfl ?_
      obtain rfl := h128_
      refine (does_move (u := (Bo (β11 || (!β12)))) (ev rfl)).mono ?_; rintro _ _ ⟨rfl, rfl⟩
      exact ⟨rfl, Ext.refl _⟩
    refine RW_d _ rfl (fun v => by dsimp only [List.set]; try rfl) (fun u hu hF => ?_) (fun v166 => ?_)
    · have h129_ : v165 = (Bo (β11 || (!β12))) := hF.1
      clear hF
      obtain rfl := h129_
      refine doesG_g (b := (β11 || (!β12))) rfl (yld rfl rfl) (fun hg1 => ?_) (fun hc => ⟨fun hg1 => absurd hg1 hc, Ext.refl _⟩)
      refine (does_move (u := (Pt s__b s__o)) (ev rfl)).mono ?_; rintro _ _ ⟨rfl, rfl⟩
      exact ⟨fun _ => rfl, Ext.refl _⟩
    refine RW_d _ rfl (fun v => by dsimp only [List.set]; try rfl) (fun u hu hF => ?_) (fun v167 => ?_)
    · have h130_ : (β11 || (!β12)) = false → v166 = (Pt s__b s__o) := hF.1
      have h129_ : v165 = (Bo (β11 || (!β12))) := hF.2.1
      clear hF
      obtain rfl := h129_
      refine doesG_g (b := (β11 || (!β12))) rfl (yld rfl rfl) (fun hg1 => ?_) (fun hc => ⟨fun hg1 => absurd hg1 hc, Ext.refl _⟩)
      obtain rfl := h130_ hg1
      refine (does_nilCheck (ev rfl)).mono ?_; rintro _ _ ⟨rfl, rfl⟩
      exact ⟨fun _ => rfl, Ext.refl _⟩
    refine RW_d _ rfl (fun v => by dsimp only [List.set]; try rfl) (fun u hu hF => ?_) (fun v168 => ?_)
    · have h131_ : (β11 || (!β12)) = false → v167 = (Pt s__b s__o) := hF.1
      have h129_ : v165 = (Bo (β11 || (!β12))) := hF.2.1
      clear hF
      obtain rfl := h129_
      refine doesG_g (b := (β11 || (!β12))) rfl (yld rfl rfl) (fun hg1 => ?_) (fun hc => ⟨fun hg1 => absurd hg1 hc, Ext.refl _⟩)
      obtain rfl := h131_ hg1
      refine (does_fieldAddr (ev rfl) fa100_2).mono ?_; rintro _ _ ⟨rfl, rfl⟩
      exact ⟨fun _ => rfl, Ext.refl _⟩
    refine RW_d _ rfl (fun v => by dsimp only [List.set]; try rfl) (fun u hu hF => ?_) (fun v169 => ?_)
    · have h132_ : (β11 || (!β12)) = false → v168 = (Pt s__b (s__o + 2)) := hF.1
      have h129_ : v165 = (Bo (β11 || (!β12))) := hF.2.1
      clear hF
      obtain rfl := h129_
      refine doesG_g (b := (β11 || (!β12))) rfl (yld rfl rfl) (fun hg1 => ?_) (fun hc => ⟨fun hg1 => absurd hg1 hc, Ext.refl _⟩)
      obtain rfl := h132_ hg1
      refine (does_load (u := (Iv A_s_.a)) (ev rfl) Try.isAgg2 (Cells.at ((hc_s_.ext (Ext.gr X16 E127)).ext hu) 2 rfl)).mono ?_; rintro _ _ ⟨rfl, rfl⟩
      exact ⟨fun _ => rfl, Ext.refl _⟩
    refine RW_d _ rfl (fun v => by dsimp only [List.set]; try rfl) (fun u hu hF => ?_) (fun v170 => ?_)
    · have h129_ : v165 = (Bo (β11 || (!β12))) := hF.1
      clear hF
      obtain rfl := h129_
      refine doesG_g (b := (β11 || (!β12))) rfl (yld rfl rfl) (fun hg1 => ?_) (fun hc => ⟨fun hg1 => absurd hg1 hc, Ext.refl _⟩)
      refine (does_move (u := (Pt p_b p_o)) (ev rfl)).mono ?_; rintro _ _ ⟨rfl, rfl⟩
      exact ⟨fun _ => rfl, Ext.refl _⟩
    refine RW_d _ rfl (fun v => by dsimp only [List.set]; try rfl) (fun u hu hF => ?_) (fun v171 => ?_)
    · have h134_ : (β11 || (!β12)) = false → v170 = (Pt p_b p_o) := hF.1
      have h129_ : v165 = (Bo (β11 || (!β12))) := hF.2.1
      clear hF
      obtain rfl := h129_
      refine doesG_g (b := (β11 || (!β12))) rfl (yld rfl rfl) (fun hg1 => ?_) (fun hc => ⟨fun hg1 => absurd hg1 hc, Ext.refl _⟩)
      obtain rfl := h134_ hg1
      refine (does_nilCheck (ev rfl)).mono ?_; rintro _ _ ⟨rfl, rfl⟩
      exact ⟨fun _ => rfl, Ext.refl _⟩
    refine RW_d _ rfl (fun v => by dsimp only [List.set]; try rfl) (fun u hu hF => ?_) (fun v172 => ?_)
    · have h135_ : (β11 || (!β12)) = false → v171 = (Pt p_b p_o) := hF.1
      have h129_ : v165 = (Bo (β11 || (!β12))) := hF.2.1
      clear hF
      obtain rfl := h129_
      refine doesG_g (b := (β11 || (!β12))) rfl (yld rfl rfl) (fun hg1 => ?_) (fun hc => ⟨fun hg1 => absurd hg1 hc, Ext.refl _⟩)
      obtain rfl := h135_ hg1
      refine (does_fieldAddr (ev rfl) fa38_1).mono ?_; rintro _ _ ⟨rfl, rfl⟩
      exact ⟨fun _ => rfl, Ext.refl _⟩
    refine RW_d _ rfl (fun v => by dsimp only [List.set]; try rfl) (fun u hu hF => ?_) (fun v173 => ?_)
    · have h136_ : (β11 || (!β12)) = false → v172 = (Pt p_b (p_o + 1)) := hF.1
      have h129_ : v165 = (Bo (β11 || (!β12))) := hF.2.1
      clear hF
      obtain rfl := h129_
      refine doesG_g (b := (β11 || (!β12))) rfl (yld rfl rfl) (fun hg1 => ?_) (fun hc => ⟨fun hg1 => absurd hg1 hc, Ext.refl _⟩)
      obtain rfl := h136_ hg1
      refine (does_load (u := (Iv A_p.values)) (ev rfl) Try.isAgg2 (Cells.at ((hc_p.ext (Ext.gr X16 E127)).ext hu) 1 rfl)).mono ?_; rintro _ _ ⟨rfl, rfl⟩
      exact ⟨fun _ => rfl, Ext.refl _⟩
    refine RW_d _ rfl (fun v => by dsimp only [List.set]; try rfl) (fun u hu hF => ?_) (fun v174 => ?_)
    · have h137_ : (β11 || (!β12)) = false → v173 = (Iv A_p.values) := hF.1
      have h129_ : v165 = (Bo (β11 || (!β12))) := hF.2.1
      clear hF
      obtain rfl := h129_
      refine doesG_g (b := (β11 || (!β12))) rfl (yld rfl rfl) (fun hg1 => ?_) (fun hc => ⟨fun hg1 => absurd hg1 hc, Ext.refl _⟩)
      obtain rfl := h137_ hg1
      refine (does_iarith (p := A_p.values) (q := 1) (r := IntKind.i64.wrap (A_p.values - 1)) (ev rfl) (ev rfl) (.inr (.inl ⟨rfl, rfl⟩))).mono ?_; rintro _ _ ⟨rfl, rfl⟩
      exact ⟨fun _ => rfl, Ext.refl _⟩
    refine RW_d _ rfl (fun v => by dsimp only [List.set]; try rfl) (fun u hu hF => ?_) (fun v175 => ?_)
    · have h133_ : (β11 || (!β12)) = false → v169 = (Iv A_s_.a) := hF.1
      have h138_ : (β11 || (!β12)) = false → v174 = (Iv (IntKind.i64.wrap (A_p.values - 1))) := hF.2.1
      have h129_ : v165 = (Bo (β11 || (!β12))) := hF.2.2.1
      clear hF
      obtain rfl := h129_
      refine doesG_g (b := (β11 || (!β12))) rfl (yld rfl rfl) (fun hg1 => ?_) (fun hc => ⟨fun hg1 => absurd hg1 hc, Ext.refl _⟩)
      obtain rfl := h133_ hg1
      obtain rfl := h138_ hg1
      refine (does_call (args := #[(Iv A_s_.a), (Iv 0), (Iv (IntKind.i64.wrap (A_p.values - 1)))]) cal97 (evs rfl) (c_spec_l00In A_s_.a 0 (IntKind.i64.wrap (A_p.values - 1)) _)).mono ?_; rintro v u' ⟨hx, hv⟩
      exact ⟨fun _ => hv.trans (by simp only [hβ13]), hx⟩
    refine RW_d _ rfl (fun v => by dsimp only [List.set]; try rfl) (fun u hu hF => ?_) (fun v176 => ?_)
    · have h139_ : (β11 || (!β12)) = false → v175 = (Bo β13) := hF.1
      have h129_ : v165 = (Bo (β11 || (!β12))) := hF.2.1
      clear hF
      obtain rfl := h129_
      refine doesG_g (b := (β11 || (!β12))) rfl (yld rfl rfl) (fun hg1 => ?_) (fun hc => ⟨fun hg1 => absurd hg1 hc, Ext.refl _⟩)
      obtain rfl := h139_ hg1
      refine (does_not (ev rfl)).mono ?_; rintro _ _ ⟨rfl, rfl⟩
      exact ⟨fun _ => rfl, Ext.refl _⟩
    refine RW_d _ rfl (fun v => by dsimp only [List.set]; try rfl) (fun u hu hF => ?_) (fun v177 => ?_)
    · have h129_ : v165 = (Bo (β11 || (!β12))) := hF.1
      have h140_ : (β11 || (!β12)) = false → v176 = (Bo (!β13)) := hF.2.1
      clear hF
      refine doesG_un rfl ?_
      skip
      obtain rfl := h129_
      refine (does_pick (b := (β11 || (!β12))) (ev rfl) (ev rfl) (ev rfl)).mono ?_; rintro _ _ ⟨rfl, rfl⟩; refine ⟨?_, Ext.refl _⟩; rw [hβ14]; skip
      cases hbb : (β11 || (!β12)) <;> simp [hbb] at h140_ ⊢
      all_goals (first | rfl | (subst h140_; rfl) | simp_all)
    refine RW_fin ?_; intro w178 E179 hP180
    obtain ⟨⟨⟨⟨⟨⟨⟨⟨⟨⟨⟨⟨⟨⟨⟨⟨⟨⟨⟨⟨⟨⟨⟨⟨⟨⟨⟨⟨⟨⟨⟨⟨⟨⟨⟨⟨⟨⟨⟨⟨⟨⟨⟨⟨⟨⟨⟨⟨-, -⟩, -⟩, -⟩, -⟩, -⟩, -⟩, -⟩, -⟩, -⟩, -⟩, -⟩, -⟩, -⟩, -⟩, -⟩, -⟩, -⟩, -⟩, -⟩, -⟩, -⟩, -⟩, -⟩, -⟩, -⟩, -⟩, -⟩, -⟩, -⟩, -⟩, -⟩, -⟩, -⟩, -⟩, -⟩, -⟩, -⟩, -⟩, -⟩, -⟩, -⟩, -⟩, -⟩, -⟩, -⟩, -⟩, -⟩, q181⟩ := hP180
    have X182 := Ext.gr X129 E179
    have q181 : v177 = (Bo β14) := q181
    obtain rfl := q181
    show wpList _ _ _ _ (fr [(Pt p_b p_o), (Pt s__b s__o), Ud, Ud, (Bo false), (Pt s__b s__o), (Pt s__b s__o), (Pt s__b (s__o + 4)), (Bo (nodeOk A_s_.node)), (Bo (!(nodeOk A_s_.node))), (Pt s__b s__o), (Pt s__b s__o), (Pt s__b s__o), (Iv A_s_.kind), (Bo (icmp .eql A_s_.kind 0)), (Bo (icmp .eql A_s_.kind 0)), Ud, Ud, Ud, Ud, Ud, Ud, Ud, Ud, Ud, Ud, Ud, Ud, Ud, Ud, Ud, Ud, Ud, Ud, Ud, Ud, Ud, Ud, Ud, Ud, Ud, Ud, Ud, Ud, Ud, Ud, Ud, Ud, Ud, Ud, Ud, Ud, Ud, (Bo (icmp .eql A_s_.kind 1)), (Bo (icmp .eql A_s_.kind 1)), Ud, Ud, Ud, Ud, Ud, Ud, Ud, Ud, Ud, Ud, Ud, Ud, Ud, Ud, Ud, Ud, Ud, Ud, Ud, Ud, Ud, Ud, Ud, Ud, Ud, Ud, Ud, Ud, Ud, Ud, Ud, Ud, Ud, Ud, Ud, Ud, Ud, (Bo (icmp .eql A_s_.kind 2)), (Bo (icmp .eql A_s_.kind 2)), v130, v131, v132, v133, v134, v135, v136, v137, v138, v139, v140, v141, v142, v143, v144, v145, v146, v147, v148, v149, v150, v151, v152, v153, v154, v155, v156, v157, v158, v159, v160, v161, v162, v163, v164, v165, v166, v167, v168, v169, v170, v171, v172, v173, v174, v175, v176, (Bo β14), Ud, Ud, Ud, Ud, Ud, Ud, Ud, Ud, Ud, Ud, Ud, Ud, Ud, Ud, Ud, Ud, Ud, Ud, Ud, Ud, Ud]) _
    refine wpList_nil (hK125 _ _ ?_)
    refine wp_cond_split (t := β14) (ev rfl) (fun c183 => ?_) (fun c183 => ?_)
    · have c183' := c183
      (try simp only [hβ9, hβ10, hβ11, hβ12, hβ13, hβ14] at c183')
      (try simp only [icmp, Bool.and_eq_true, Bool.or_eq_true, Bool.and_eq_false_iff, Bool.or_eq_false_iff, Bool.not_eq_true', Bool.not_eq_false', decide_eq_true_eq, decide_eq_false_iff_not, beq_iff_eq, bne_iff_ne, beq_eq_false_iff_ne, bne_eq_false_iff_eq] at c183')
      refine wp_seq_k fun K184 hK184 => ?_
      refine wp_region_lit ?_
      refine q_is rfl rfl (does_assign (u := (Bo false)) (ev rfl)) (by dsimp only [List.set]; try rfl) ?_
      refine wpList_nil (hK184 _ _ ?_)
      refine wp_ret ?_
      dsimp only [Exit.then, Exit.inBlock]
      refine ret_val (v := (Bo false)) (res_T rfl (slot rfl)) X182 ?_
      try simp only [hβ9, hβ10, hβ11, hβ12, hβ13, hβ14] at c17 c23 c73 c123 c183
      have x185 : (stepOk A_p A_s_) = false := by first | exact stepOk_n (by assumption) | exact stepOk_2f (by assumption) (by assumption) | exact stepOk_x (by assumption) (by assumption) (by assumption) | (rw [stepOk_0 (by assumption) (by assumption)]; simp only [hβ9, hβ10, hβ11, hβ12, hβ13, hβ14, c17, c23, c73, c123, c183]; done) | (rw [stepOk_1 (by assumption) (by assumption)]; simp only [hβ9, hβ10, hβ11, hβ12, hβ13, hβ14, c17, c23, c73, c123, c183]; done) | (rw [stepOk_2t (by assumption) (by assumption) (by assumption), ‹inI A_s_.node.kind 5 8 = true›]; simp only [if_true, hβ9, hβ10, hβ11, hβ12, hβ13, hβ14, c17, c23, c73, c123, c183]; done) | (rw [stepOk_2t (by assumption) (by assumption) (by assumption), ‹inI A_s_.node.kind 5 8 = false›]; simp only [Bool.false_eq_true, if_false, hβ9, hβ10, hβ11, hβ12, hβ13, hβ14, c17, c23, c73, c123, c183]; done)
      exact (by first | rfl | rw [x185])
    have c183' := c183
    (try simp only [hβ9, hβ10, hβ11, hβ12, hβ13, hβ14] at c183')
    (try simp only [icmp, Bool.and_eq_true, Bool.or_eq_true, Bool.and_eq_false_iff, Bool.or_eq_false_iff, Bool.not_eq_true', Bool.not_eq_false', decide_eq_true_eq, decide_eq_false_iff_not, beq_iff_eq, bne_iff_ne, beq_eq_false_iff_ne, bne_eq_false_iff_eq] at c183')
    refine wp_skip (hK124 _ _ ?_)
    refine wp_seq_k fun K186 hK186 => ?_
    refine wp_seq_k fun K187 hK187 => ?_
    refine wp_region_lit ?_
    refine q_is rfl rfl (does_move (u := (Pt s__b s__o)) (ev rfl)) (by dsimp only [List.set]; try rfl) ?_
    refine q_is rfl rfl (does_nilCheck (ev rfl)) (by dsimp only [List.set]; try rfl) ?_
    refine q_is rfl rfl (does_fieldAddr (ev rfl) fa100_4) (by dsimp only [List.set]; try rfl) ?_
    refine q_is rfl rfl (does_fieldAddr (ev rfl) fa27_0) (by dsimp only [List.set]; try rfl) ?_
    refine q_is rfl rfl (does_load (u := (Iv A_s_.node.kind)) (ev rfl) Try.isAgg2 (Cells.at (hc_s_.ext X182) 4 rfl)) (by dsimp only [List.set]; try rfl) ?_
    refine seqd rfl rfl (does_call (args := #[(Iv A_s_.node.kind)]) cal104 (evs rfl) (c_spec_l02Two A_s_.node.kind _)) ?_; rintro _ w189 ⟨E188, rfl⟩
    have X190 := Ext.gr X182 E188
    show wpList _ _ _ _ (fr [(Pt p_b p_o), (Pt s__b s__o), Ud, Ud, (Bo false), (Pt s__b s__o), (Pt s__b s__o), (Pt s__b (s__o + 4)), (Bo (nodeOk A_s_.node)), (Bo (!(nodeOk A_s_.node))), (Pt s__b s__o), (Pt s__b s__o), (Pt s__b s__o), (Iv A_s_.kind), (Bo (icmp .eql A_s_.kind 0)), (Bo (icmp .eql A_s_.kind 0)), Ud, Ud, Ud, Ud, Ud, Ud, Ud, Ud, Ud, Ud, Ud, Ud, Ud, Ud, Ud, Ud, Ud, Ud, Ud, Ud, Ud, Ud, Ud, Ud, Ud, Ud, Ud, Ud, Ud, Ud, Ud, Ud, Ud, Ud, Ud, Ud, Ud, (Bo (icmp .eql A_s_.kind 1)), (Bo (icmp .eql A_s_.kind 1)), Ud, Ud, Ud, Ud, Ud, Ud, Ud, Ud, Ud, Ud, Ud, Ud, Ud, Ud, Ud, Ud, Ud, Ud, Ud, Ud, Ud, Ud, Ud, Ud, Ud, Ud, Ud, Ud, Ud, Ud, Ud, Ud, Ud, Ud, Ud, Ud, Ud, (Bo (icmp .eql A_s_.kind 2)), (Bo (icmp .eql A_s_.kind 2)), v130, v131, v132, v133, v134, v135, v136, v137, v138, v139, v140, v141, v142, v143, v144, v145, v146, v147, v148, v149, v150, v151, v152, v153, v154, v155, v156, v157, v158, v159, v160, v161, v162, v163, v164, v165, v166, v167, v168, v169, v170, v171, v172, v173, v174, v175, v176, (Bo β14), (Pt s__b s__o), (Pt s__b s__o), (Pt s__b (s__o + 4)), (Pt s__b (s__o + 4)), (Iv A_s_.node.kind), (Bo (inI A_s_.node.kind 5 8)), Ud, Ud, Ud, Ud, Ud, Ud, Ud, Ud, Ud, Ud, Ud, Ud, Ud, Ud, Ud]) _
    refine wpList_nil (hK187 _ _ ?_)
    refine wp_cond_split (t := inI A_s_.node.kind 5 8) (ev rfl) (fun c191 => ?_) (fun c191 => ?_)
    · have c191' := c191
      (try simp only [hβ9, hβ10, hβ11, hβ12, hβ13, hβ14] at c191')
      (try simp only [icmp, Bool.and_eq_true, Bool.or_eq_true, Bool.and_eq_false_iff, Bool.or_eq_false_iff, Bool.not_eq_true', Bool.not_eq_false', decide_eq_true_eq, decide_eq_false_iff_not, beq_iff_eq, bne_iff_ne, beq_eq_false_iff_ne, bne_eq_false_iff_eq] at c191')
      refine wp_seq_k fun K192 hK192 => ?_
      obtain ⟨β15, hβ15⟩ : ∃ b : Bool, b = (inI A_s_.b 0 (IntKind.i64.wrap (A_p.values - 1))) := ⟨_, rfl⟩
      refine region_draw (
        [Fact.pure [] (fun v => v = (Pt s__b s__o)),
    Fact.pure [148] (fun v => v = (Pt s__b s__o)),
    Fact.pure [149] (fun v => v = (Pt s__b (s__o + 3))),
    Fact.pure [150] (fun v => v = (Iv A_s_.b)),
    Fact.pure [] (fun v => v = (Pt p_b p_o)),
    Fact.pure [152] (fun v => v = (Pt p_b p_o)),
    Fact.pure [153] (fun v => v = (Pt p_b (p_o + 1))),
    Fact.pure [154] (fun v => v = (Iv A_p.values)),
    Fact.pure [155] (fun v => v = (Iv (IntKind.i64.wrap (A_p.values - 1)))),
    Fact.pure [151, 156] (fun v => v = (Bo β15))]) mixed (by kernel_rfl) (by intro _ _ d _ _ h; cases d <;> exact h) ?_
      obtain ⟨w193, hw195⟩ : ∃ w', w' = World.drew w189 := ⟨_, rfl⟩; rw [← hw195]; have E194 : Ext w189 w193 := by rw [hw195]; exact Ext.draw _
      clear hw195
      have X196 := Ext.gr X190 E194
      refine RW_d _ rfl (fun v => by dsimp only [List.set]; try rfl) (fun u hu hF => ?_) (fun v197 => ?_)
      · clear hF
        refine doesG_un rfl ?_
        refine (does_move (u := (Pt s__b s__o)) (ev rfl)).mono ?_; rintro _ _ ⟨rfl, rfl⟩
        exact ⟨rfl, Ext.refl _⟩
      refine RW_d _ rfl (fun v => by dsimp only [List.set]; try rfl) (fun u hu hF => ?_) (fun v198 => ?_)
      · have h148_ : v197 = (Pt s__b s__o) := hF.1
        clear hF
        refine doesG_un rfl ?_
        obtain rfl := h148_
        refine (does_nilCheck (ev rfl)).mono ?_; rintro _ _ ⟨rfl, rfl⟩
        exact ⟨rfl, Ext.refl _⟩
      refine RW_d _ rfl (fun v => by dsimp only [List.set]; try rfl) (fun u hu hF => ?_) (fun v199 => ?_)
      · have h149_ : v198 = (Pt s__b s__o) := hF.1
        clear hF
        refine doesG_un rfl ?_
        obtain rfl := h149_
        refine (does_fieldAddr (ev rfl) fa100_3).mono ?_; rintro _ _ ⟨rfl, rfl⟩
        exact ⟨rfl, Ext.refl _⟩
      refine RW_d _ rfl (fun v => by dsimp only [List.set]; try rfl) (fun u hu hF => ?_) (fun v200 => ?_)
      · have h150_ : v199 = (Pt s__b (s__o + 3)) := hF.1
        clear hF
        refine doesG_un rfl ?_
        obtain rfl := h150_
        refine (does_load (u := (Iv A_s_.b)) (ev rfl) Try.isAgg2 (Cells.at ((hc_s_.ext (Ext.gr X190 E194)).ext hu) 3 rfl)).mono ?_; rintro _ _ ⟨rfl, rfl⟩
        exact ⟨rfl, Ext.refl _⟩
      refine RW_d _ rfl (fun v => by dsimp only [List.set]; try rfl) (fun u hu hF => ?_) (fun v201 => ?_)
      · clear hF
        refine doesG_un rfl ?_
        refine (does_move (u := (Pt p_b p_o)) (ev rfl)).mono ?_; rintro _ _ ⟨rfl, rfl⟩
        exact ⟨rfl, Ext.refl _⟩
      refine RW_d _ rfl (fun v => by dsimp only [List.set]; try rfl) (fun u hu hF => ?_) (fun v202 => ?_)
      · have h152_ : v201 = (Pt p_b p_o) := hF.1
        clear hF
        refine doesG_un rfl ?_
        obtain rfl := h152_
        refine (does_nilCheck (ev rfl)).mono ?_; rintro _ _ ⟨rfl, rfl⟩
        exact ⟨rfl, Ext.refl _⟩
      refine RW_d _ rfl (fun v => by dsimp only [List.set]; try rfl) (fun u hu hF => ?_) (fun v203 => ?_)
      · have h153_ : v202 = (Pt p_b p_o) := hF.1
        clear hF
        refine doesG_un rfl ?_
        obtain rfl := h153_
        refine (does_fieldAddr (ev rfl) fa38_1).mono ?_; rintro _ _ ⟨rfl, rfl⟩
        exact ⟨rfl, Ext.refl _⟩
      refine RW_d _ rfl (fun v => by dsimp only [List.set]; try rfl) (fun u hu hF => ?_) (fun v204 => ?_)
      · have h154_ : v203 = (Pt p_b (p_o + 1)) := hF.1
        clear hF
        refine doesG_un rfl ?_
        obtain rfl := h154_
        refine (does_load (u := (Iv A_p.values)) (ev rfl) Try.isAgg2 (Cells.at ((hc_p.ext (Ext.gr X190 E194)).ext hu) 1 rfl)).mono ?_; rintro _ _ ⟨rfl, rfl⟩
        exact ⟨rfl, Ext.refl _⟩
      refine RW_d _ rfl (fun v => by dsimp only [List.set]; try rfl) (fun u hu hF => ?_) (fun v205 => ?_)
      · have h155_ : v204 = (Iv A_p.values) := hF.1
        clear hF
        refine doesG_un rfl ?_
        obtain rfl := h155_
        refine (does_iarith (p := A_p.values) (q := 1) (r := IntKind.i64.wrap (A_p.values - 1)) (ev rfl) (ev rfl) (.inr (.inl ⟨rfl, rfl⟩))).mono ?_; rintro _ _ ⟨rfl, rfl⟩
        exact ⟨rfl, Ext.refl _⟩
      refine RW_d _ rfl (fun v => by dsimp only [List.set]; try rfl) (fun u hu hF => ?_) (fun v206 => ?_)
      · have h151_ : v200 = (Iv A_s_.b) := hF.1
        have h156_ : v205 = (Iv (IntKind.i64.wrap (A_p.values - 1))) := hF.2.1
        clear hF
        refine doesG_un rfl ?_
        obtain rfl := h151_
        obtain rfl := h156_
        refine (does_call (args := #[(Iv A_s_.b), (Iv 0), (Iv (IntKind.i64.wrap (A_p.values - 1)))]) cal97 (evs rfl) (c_spec_l00In A_s_.b 0 (IntKind.i64.wrap (A_p.values - 1)) _)).mono ?_; rintro v u' ⟨hx, hv⟩
        exact ⟨hv.trans (by simp only [hβ15]), hx⟩
      refine RW_fin ?_; intro w207 E208 hP209
      obtain ⟨⟨⟨⟨⟨⟨⟨⟨⟨⟨-, -⟩, -⟩, -⟩, -⟩, -⟩, -⟩, -⟩, -⟩, -⟩, q210⟩ := hP209
      have X211 := Ext.gr X196 E208
      have q210 : v206 = (Bo β15) := q210
      obtain rfl := q210
      show wpList _ _ _ _ (fr [(Pt p_b p_o), (Pt s__b s__o), Ud, Ud, (Bo false), (Pt s__b s__o), (Pt s__b s__o), (Pt s__b (s__o + 4)), (Bo (nodeOk A_s_.node)), (Bo (!(nodeOk A_s_.node))), (Pt s__b s__o), (Pt s__b s__o), (Pt s__b s__o), (Iv A_s_.kind), (Bo (icmp .eql A_s_.kind 0)), (Bo (icmp .eql A_s_.kind 0)), Ud, Ud, Ud, Ud, Ud, Ud, Ud, Ud, Ud, Ud, Ud, Ud, Ud, Ud, Ud, Ud, Ud, Ud, Ud, Ud, Ud, Ud, Ud, Ud, Ud, Ud, Ud, Ud, Ud, Ud, Ud, Ud, Ud, Ud, Ud, Ud, Ud, (Bo (icmp .eql A_s_.kind 1)), (Bo (icmp .eql A_s_.kind 1)), Ud, Ud, Ud, Ud, Ud, Ud, Ud, Ud, Ud, Ud, Ud, Ud, Ud, Ud, Ud, Ud, Ud, Ud, Ud, Ud, Ud, Ud, Ud, Ud, Ud, Ud, Ud, Ud, Ud, Ud, Ud, Ud, Ud, Ud, Ud, Ud, Ud, (Bo (icmp .eql A_s_.kind 2)), (Bo (icmp .eql A_s_.kind 2)), v130, v131, v132, v133, v134, v135, v136, v137, v138, v139, v140, v141, v142, v143, v144, v145, v146, v147, v148, v149, v150, v151, v152, v153, v154, v155, v156, v157, v158, v159, v160, v161, v162, v163, v164, v165, v166, v167, v168, v169, v170, v171, v172, v173, v174, v175, v176, (Bo β14), (Pt s__b s__o), (Pt s__b s__o), (Pt s__b (s__o + 4)), (Pt s__b (s__o + 4)), (Iv A_s_.node.kind), (Bo (inI A_s_.node.kind 5 8)), v197, v198, v199, v200, v201, v202, v203, v204, v205, (Bo β15), Ud, Ud, Ud, Ud, Ud]) _
      refine q_is rfl rfl (does_assign (u := (Bo β15)) (ev rfl)) (by dsimp only [List.set]; try rfl) ?_
      refine wpList_nil (hK192 _ _ ?_)
      refine wp_ret ?_
      dsimp only [Exit.then, Exit.inBlock]
      refine ret_val (v := (Bo β15)) (res_T rfl (slot rfl)) X211 ?_
      try simp only [hβ9, hβ10, hβ11, hβ12, hβ13, hβ14, hβ15] at c17 c23 c73 c123 c183 c191
      have x212 : (stepOk A_p A_s_) = β15 := by first | exact stepOk_n (by assumption) | exact stepOk_2f (by assumption) (by assumption) | exact stepOk_x (by assumption) (by assumption) (by assumption) | (rw [stepOk_0 (by assumption) (by assumption)]; simp only [hβ9, hβ10, hβ11, hβ12, hβ13, hβ14, hβ15, c17, c23, c73, c123, c183, c191]; done) | (rw [stepOk_1 (by assumption) (by assumption)]; simp only [hβ9, hβ10, hβ11, hβ12, hβ13, hβ14, hβ15, c17, c23, c73, c123, c183, c191]; done) | (rw [stepOk_2t (by assumption) (by assumption) (by assumption), ‹inI A_s_.node.kind 5 8 = true›]; simp only [if_true, hβ9, hβ10, hβ11, hβ12, hβ13, hβ14, hβ15, c17, c23, c73, c123, c183, c191]; done) | (rw [stepOk_2t (by assumption) (by assumption) (by assumption), ‹inI A_s_.node.kind 5 8 = false›]; simp only [Bool.false_eq_true, if_false, hβ9, hβ10, hβ11, hβ12, hβ13, hβ14, hβ15, c17, c23, c73, c123, c183, c191]; done)
      exact (by first | rfl | rw [x212])
    have c191' := c191
    (try simp only [hβ9, hβ10, hβ11, hβ12, hβ13, hβ14] at c191')
    (try simp only [icmp, Bool.and_eq_true, Bool.or_eq_true, Bool.and_eq_false_iff, Bool.or_eq_false_iff, Bool.not_eq_true', Bool.not_eq_false', decide_eq_true_eq, decide_eq_false_iff_not, beq_iff_eq, bne_iff_ne, beq_eq_false_iff_ne, bne_eq_false_iff_eq] at c191')
    refine wp_skip (hK186 _ _ ?_)
    refine wp_seq_k fun K213 hK213 => ?_
    refine wp_region_lit ?_
    refine q_is rfl rfl (does_move (u := (Pt s__b s__o)) (ev rfl)) (by dsimp only [List.set]; try rfl) ?_
    refine q_is rfl rfl (does_nilCheck (ev rfl)) (by dsimp only [List.set]; try rfl) ?_
    refine q_is rfl rfl (does_fieldAddr (ev rfl) fa100_3) (by dsimp only [List.set]; try rfl) ?_
    refine q_is rfl rfl (does_load (u := (Iv A_s_.b)) (ev rfl) Try.isAgg2 (Cells.at (hc_s_.ext X190) 3 rfl)) (by dsimp only [List.set]; try rfl) ?_
    refine q_is rfl rfl (does_icmp (p := A_s_.b) (q := 0) (.inl rfl) (ev rfl) (ev rfl)) (by dsimp only [List.set]; try rfl) ?_
    refine q_is rfl rfl (does_assign (u := (Bo (icmp .eql A_s_.b 0))) (ev rfl)) (by dsimp only [List.set]; try rfl) ?_
    refine wpList_nil (hK213 _ _ ?_)
    refine wp_ret ?_
    dsimp only [Exit.then, Exit.inBlock]
    refine ret_val (v := (Bo (icmp .eql A_s_.b 0))) (res_T rfl (slot rfl)) X190 ?_
    try simp only [hβ9, hβ10, hβ11, hβ12, hβ13, hβ14] at c17 c23 c73 c123 c183 c191
    have x214 : (stepOk A_p A_s_) = (icmp .eql A_s_.b 0) := by first | exact stepOk_n (by assumption) | exact stepOk_2f (by assumption) (by assumption) | exact stepOk_x (by assumption) (by assumption) (by assumption) | (rw [stepOk_0 (by assumption) (by assumption)]; simp only [hβ9, hβ10, hβ11, hβ12, hβ13, hβ14, c17, c23, c73, c123, c183, c191]; done) | (rw [stepOk_1 (by assumption) (by assumption)]; simp only [hβ9, hβ10, hβ11, hβ12, hβ13, hβ14, c17, c23, c73, c123, c183, c191]; done) | (rw [stepOk_2t (by assumption) (by assumption) (by assumption), ‹inI A_s_.node.kind 5 8 = true›]; simp only [if_true, hβ9, hβ10, hβ11, hβ12, hβ13, hβ14, c17, c23, c73, c123, c183, c191]; done) | (rw [stepOk_2t (by assumption) (by assumption) (by assumption), ‹inI A_s_.node.kind 5 8 = false›]; simp only [Bool.false_eq_true, if_false, hβ9, hβ10, hβ11, hβ12, hβ13, hβ14, c17, c23, c73, c123, c183, c191]; done)
    exact (by first | rfl | rw [x214])
  have c123' := c123
  (try simp only [icmp, Bool.and_eq_true, Bool.or_eq_true, Bool.and_eq_false_iff, Bool.or_eq_false_iff, Bool.not_eq_true', Bool.not_eq_false', decide_eq_true_eq, decide_eq_false_iff_not, beq_iff_eq, bne_iff_ne, beq_eq_false_iff_ne, bne_eq_false_iff_eq] at c123')
  refine wp_skip (hK20 _ _ ?_)
  refine wp_seq_k fun K215 hK215 => ?_
  refine wp_region_lit ?_
  refine q_is rfl rfl (does_assign (u := (Bo false)) (ev rfl)) (by dsimp only [List.set]; try rfl) ?_
  refine wpList_nil (hK215 _ _ ?_)
  refine wp_ret ?_
  refine ret_val (v := (Bo false)) (res_T rfl (slot rfl)) X16 ?_
  have x216 : (stepOk A_p A_s_) = false := by first | exact stepOk_n (by assumption) | exact stepOk_2f (by assumption) (by assumption) | exact stepOk_x (by assumption) (by assumption) (by assumption) | (rw [stepOk_0 (by assumption) (by assumption)]; simp only [c17, c23, c73, c123]; done) | (rw [stepOk_1 (by assumption) (by assumption)]; simp only [c17, c23, c73, c123]; done) | (rw [stepOk_2t (by assumption) (by assumption) (by assumption), ‹inI A_s_.node.kind 5 8 = true›]; simp only [if_true, c17, c23, c73, c123]; done) | (rw [stepOk_2t (by assumption) (by assumption) (by assumption), ‹inI A_s_.node.kind 5 8 = false›]; simp only [Bool.false_eq_true, if_false, c17, c23, c73, c123]; done)
  exact (by first | rfl | rw [x216])

/- spec.l05Is -/
theorem c_spec_l05Is (p_b : Nat) (p_o : Nat) (p : List Value) (A_p : ProgT) (w : World) (hc_p : Cells w p_b p_o p) (hv_p : RProgT w A_p p) : Gives Try.prog 53 #[(Pt p_b p_o)] w (fun v w' => v = (Bo (progOk A_p))) := by
  obtain ⟨y1, rfl, h2⟩ := hv_p
  have hs5 := h2; have hs5l := Sl.len h2; obtain ⟨p3, q4, rfl⟩ := Sl.shape h2
  refine enter [(Pt p_b p_o), Ud, Ud, Ud, Ud, Ud, Ud, Ud, Ud, Ud, Ud, Ud, Ud, Ud, Ud, Ud, Ud, Ud, Ud, Ud, Ud, Ud, Ud, Ud, Ud, Ud, Ud, Ud, Ud, Ud, Ud, Ud, Ud, Ud, Ud, Ud, Ud, Ud, Ud, Ud, Ud, Ud, Ud, Ud, Ud, Ud, Ud, Ud, Ud, Ud, Ud, Ud, Ud, Ud, Ud, Ud, Ud, Ud, Ud, Ud, Ud, Ud, Ud, Ud, Ud, Ud, Ud, Ud, Ud, Ud, Ud, Ud] Try.func53 rfl Try.ntmps53 rfl ?_
  refine wp_seq_k fun K6 hK6 => ?_
  refine wp_region_lit ?_
  refine q_is rfl rfl (does_assign (u := (Bo false)) (ev rfl)) (by dsimp only [List.set]; try rfl) ?_
  refine wpList_nil (hK6 _ _ ?_)
  refine wp_seq_k fun K7 hK7 => ?_
  refine wp_region_lit ?_
  refine q_is rfl rfl (does_move (u := (Pt p_b p_o)) (ev rfl)) (by dsimp only [List.set]; try rfl) ?_
  refine q_is rfl rfl (does_nilCheck (ev rfl)) (by dsimp only [List.set]; try rfl) ?_
  refine q_is rfl rfl (does_fieldAddr (ev rfl) fa38_2) (by dsimp only [List.set]; try rfl) ?_
  refine q_is rfl rfl (does_load (u := (.slice p3 A_p.steps.length q4)) (ev rfl) Try.isAgg36 (Cells.at hc_p 2 rfl)) (by dsimp only [List.set]; try rfl) ?_
  refine q_is rfl rfl (does_len_slice Try.underlying36 (ev rfl)) (by dsimp only [List.set]; try rfl) ?_
  refine q_is rfl rfl (does_assign (u := (Iv (A_p.steps.length : Int))) (ev rfl)) (by dsimp only [List.set]; try rfl) ?_
  refine wpList_nil (hK7 _ _ ?_)
  refine wp_seq_k fun K8 hK8 => ?_
  refine wp_seq_k fun K9 hK9 => ?_
  obtain ⟨β1, hβ1⟩ : ∃ b : Bool, b = ((!(inI A_p.points 1 18)) || (!(inI A_p.values 1 18))) := ⟨_, rfl⟩
  obtain ⟨β2, hβ2⟩ : ∃ b : Bool, b = (icmp .lss (A_p.steps.length : Int) 1) := ⟨_, rfl⟩
  obtain ⟨β3, hβ3⟩ : ∃ b : Bool, b = (icmp .gtr (A_p.steps.length : Int) 40) := ⟨_, rfl⟩
  refine region_text (
    [Fact.pure [] (fun v => v = (Pt p_b p_o)),
    Fact.pure [10] (fun v => v = (Pt p_b p_o)),
    Fact.pure [11] (fun v => v = (Pt p_b p_o)),
    Fact.pure [12] (fun v => v = (Iv A_p.points)),
    Fact.pure [13] (fun v => v = (Bo (inI A_p.points 1 18))),
    Fact.pure [14] (fun v => v = (Bo (!(inI A_p.points 1 18)))),
    Fact.pure [15] (fun v => v = (Bo (!(inI A_p.points 1 18)))),
    Fact.pure [16] (fun v => (!(inI A_p.points 1 18)) = false → v = (Pt p_b p_o)),
    Fact.pure [17, 16] (fun v => (!(inI A_p.points 1 18)) = false → v = (Pt p_b p_o)),
    Fact.pure [18, 16] (fun v => (!(inI A_p.points 1 18)) = false → v = (Pt p_b (p_o + 1))),
    Fact.pure [19, 16] (fun v => (!(inI A_p.points 1 18)) = false → v = (Iv A_p.values)),
    Fact.pure [20, 16] (fun v => (!(inI A_p.points 1 18)) = false → v = (Bo (inI A_p.values 1 18))),
    Fact.pure [21, 16] (fun v => (!(inI A_p.points 1 18)) = false → v = (Bo (!(inI A_p.values 1 18)))),
    Fact.pure [16, 22] (fun v => v = (Bo β1)),
    Fact.pure [23] (fun v => v = (Bo β1)),
    Fact.pure [24] (fun v => β1 = false → v = (Iv (A_p.steps.length : Int))),
    Fact.pure [25, 24] (fun v => β1 = false → v = (Bo β2)),
    Fact.pure [24, 26] (fun v => v = (Bo (β1 || β2))),
    Fact.pure [27] (fun v => v = (Bo (β1 || β2))),
    Fact.pure [28] (fun v => (β1 || β2) = false → v = (Iv (A_p.steps.length : Int))),
    Fact.pure [29, 28] (fun v => (β1 || β2) = false → v = (Bo β3)),
    Fact.pure [28, 30] (fun v => v = (Bo ((β1 || β2) || β3)))]) (by simp [Fact.pure, Fact.mem]) ?_
  refine RW_d _ rfl (fun v => by dsimp only [List.set]; try rfl) (fun u hu hF => ?_) (fun v10 => ?_)
  · clear hF
    refine doesG_un rfl ?_
    refine (does_move (u := (Pt p_b p_o)) (ev rfl)).mono ?_; rintro _ _ ⟨rfl, rfl⟩
    exact ⟨rfl, Ext.refl _⟩
  refine RW_d _ rfl (fun v => by dsimp only [List.set]; try rfl) (fun u hu hF => ?_) (fun v11 => ?_)
  · have h10_ : v10 = (Pt p_b p_o) := hF.1
    clear hF
    refine doesG_un rfl ?_
    obtain rfl := h10_
    refine (does_nilCheck (ev rfl)).mono ?_; rintro _ _ ⟨rfl, rfl⟩
    exact ⟨rfl, Ext.refl _⟩
  refine RW_d _ rfl (fun v => by dsimp only [List.set]; try rfl) (fun u hu hF => ?_) (fun v12 => ?_)
  · have h11_ : v11 = (Pt p_b p_o) := hF.1
    clear hF
    refine doesG_un rfl ?_
    obtain rfl := h11_
    refine (does_fieldAddr (ev rfl) fa38_0).mono ?_; rintro _ _ ⟨rfl, rfl⟩
    exact ⟨rfl, Ext.refl _⟩
  refine RW_d _ rfl (fun v => by dsimp only [List.set]; try rfl) (fun u hu hF => ?_) (fun v13 => ?_)
  · have h12_ : v12 = (Pt p_b p_o) := hF.1
    clear hF
    refine doesG_un rfl ?_
    obtain rfl := h12_
    refine (does_load (u := (Iv A_p.points)) (ev rfl) Try.isAgg2 (Cells.at (hc_p.ext hu) 0 rfl)).mono ?_; rintro _ _ ⟨rfl, rfl⟩
    exact ⟨rfl, Ext.refl _⟩
  refine RW_d _ rfl (fun v => by dsimp only [List.set]; try rfl) (fun u hu hF => ?_) (fun v14 => ?_)
  · have h13_ : v13 = (Iv A_p.points) := hF.1
    clear hF
    refine doesG_un rfl ?_
    obtain rfl := h13_
    refine (does_call (args := #[(Iv A_p.points), (Iv 1), (Iv 18)]) cal97 (evs rfl) (c_spec_l00In A_p.points 1 18 _)).mono ?_; rintro v u' ⟨hx, hv⟩
    exact ⟨hv, hx⟩
  refine RW_d _ rfl (fun v => by dsimp only [List.set]; try rfl) (fun u hu hF => ?_) (fun v15 => ?_)
  · have h14_ : v14 = (Bo (inI A_p.points 1 18)) := hF.1
    clear hF
    refine doesG_un rfl ?_
    obtain rfl := h14_
    refine (does_not (ev rfl)).mono ?_; rintro _ _ ⟨rfl, rfl⟩
    exact ⟨rfl, Ext.refl _⟩
  refine RW_d _ rfl (fun v => by dsimp only [List.set]; try rfl) (fun u hu hF => ?_) (fun v16 => ?_)
  · have h15_ : v15 = (Bo (!(inI A_p.points 1 18))) := hF.1
    clear hF
    refine doesG_un rfl ?_
    obtain rfl := h15_
    refine (does_move (u := (Bo (!(inI A_p.points 1 18)))) (ev rfl)).mono ?_; rintro _ _ ⟨rfl, rfl⟩
    exact ⟨rfl, Ext.refl _⟩
  refine RW_d _ rfl (fun v => by dsimp only [List.set]; try rfl) (fun u hu hF => ?_) (fun v17 => ?_)
  · have h16_ : v16 = (Bo (!(inI A_p.points 1 18))) := hF.1
    clear hF
    obtain rfl := h16_
    refine doesG_g (b := (!(inI A_p.points 1 18))) rfl (yld rfl rfl) (fun hg1 => ?_) (fun hc => ⟨fun hg1 => absurd hg1 hc, Ext.refl _⟩)
    refine (does_move (u := (Pt p_b p_o)) (ev rfl)).mono ?_; rintro _ _ ⟨rfl, rfl⟩
    exact ⟨fun _ => rfl, Ext.refl _⟩
  refine RW_d _ rfl (fun v => by dsimp only [List.set]; try rfl) (fun u hu hF => ?_) (fun v18 => ?_)
  · have h17_ : (!(inI A_p.points 1 18)) = false → v17 = (Pt p_b p_o) := hF.1
    have h16_ : v16 = (Bo (!(inI A_p.points 1 18))) := hF.2.1
    clear hF
    obtain rfl := h16_
    refine doesG_g (b := (!(inI A_p.points 1 18))) rfl (yld rfl rfl) (fun hg1 => ?_) (fun hc => ⟨fun hg1 => absurd hg1 hc, Ext.refl _⟩)
    obtain rfl := h17_ hg1
    refine (does_nilCheck (ev rfl)).mono ?_; rintro _ _ ⟨rfl, rfl⟩
    exact ⟨fun _ => rfl, Ext.refl _⟩
  refine RW_d _ rfl (fun v => by dsimp only [List.set]; try rfl) (fun u hu hF => ?_) (fun v19 => ?_)
  · have h18_ : (!(inI A_p.points 1 18)) = false → v18 = (Pt p_b p_o) := hF.1
    have h16_ : v16 = (Bo (!(inI A_p.points 1 18))) := hF.2.1
    clear hF
    obtain rfl := h16_
    refine doesG_g (b := (!(inI A_p.points 1 18))) rfl (yld rfl rfl) (fun hg1 => ?_) (fun hc => ⟨fun hg1 => absurd hg1 hc, Ext.refl _⟩)
    obtain rfl := h18_ hg1
    refine (does_fieldAddr (ev rfl) fa38_1).mono ?_; rintro _ _ ⟨rfl, rfl⟩
    exact ⟨fun _ => rfl, Ext.refl _⟩
  refine RW_d _ rfl (fun v => by dsimp only [List.set]; try rfl) (fun u hu hF => ?_) (fun v20 => ?_)
  · have h19_ : (!(inI A_p.points 1 18)) = false → v19 = (Pt p_b (p_o + 1)) := hF.1
    have h16_ : v16 = (Bo (!(inI A_p.points 1 18))) := hF.2.1
    clear hF
    obtain rfl := h16_
    refine doesG_g (b := (!(inI A_p.points 1 18))) rfl (yld rfl rfl) (fun hg1 => ?_) (fun hc => ⟨fun hg1 => absurd hg1 hc, Ext.refl _⟩)
    obtain rfl := h19_ hg1
    refine (does_load (u := (Iv A_p.values)) (ev rfl) Try.isAgg2 (Cells.at (hc_p.ext hu) 1 rfl)).mono ?_; rintro _ _ ⟨rfl, rfl⟩
    exact ⟨fun _ => rfl, Ext.refl _⟩
  refine RW_d _ rfl (fun v => by dsimp only [List.set]; try rfl) (fun u hu hF => ?_) (fun v21 => ?_)
  · have h20_ : (!(inI A_p.points 1 18)) = false → v20 = (Iv A_p.values) := hF.1
    have h16_ : v16 = (Bo (!(inI A_p.points 1 18))) := hF.2.1
    clear hF
    obtain rfl := h16_
    refine doesG_g (b := (!(inI A_p.points 1 18))) rfl (yld rfl rfl) (fun hg1 => ?_) (fun hc => ⟨fun hg1 => absurd hg1 hc, Ext.refl _⟩)
    obtain rfl := h20_ hg1
    refine (does_call (args := #[(Iv A_p.values), (Iv 1), (Iv 18)]) cal97 (evs rfl) (c_spec_l00In A_p.values 1 18 _)).mono ?_; rintro v u' ⟨hx, hv⟩
    exact ⟨fun _ => hv, hx⟩
  refine RW_d _ rfl (fun v => by dsimp only [List.set]; try rfl) (fun u hu hF => ?_) (fun v22 => ?_)
  · have h21_ : (!(inI A_p.points 1 18)) = false → v21 = (Bo (inI A_p.values 1 18)) := hF.1
    have h16_ : v16 = (Bo (!(inI A_p.points 1 18))) := hF.2.1
    clear hF
    obtain rfl := h16_
    refine doesG_g (b := (!(inI A_p.points 1 18))) rfl (yld rfl rfl) (fun hg1 => ?_) (fun hc => ⟨fun hg1 => absurd hg1 hc, Ext.refl _⟩)
    obtain rfl := h21_ hg1
    refine (does_not (ev rfl)).mono ?_; rintro _ _ ⟨rfl, rfl⟩
    exact ⟨fun _ => rfl, Ext.refl _⟩
  refine RW_d _ rfl (fun v => by dsimp only [List.set]; try rfl) (fun u hu hF => ?_) (fun v23 => ?_)
  · have h16_ : v16 = (Bo (!(inI A_p.points 1 18))) := hF.1
    have h22_ : (!(inI A_p.points 1 18)) = false → v22 = (Bo (!(inI A_p.values 1 18))) := hF.2.1
    clear hF
    refine doesG_un rfl ?_
    skip
    obtain rfl := h16_
    refine (does_pick (b := (!(inI A_p.points 1 18))) (ev rfl) (ev rfl) (ev rfl)).mono ?_; rintro _ _ ⟨rfl, rfl⟩; refine ⟨?_, Ext.refl _⟩; rw [hβ1]; skip
    cases hbb : (!(inI A_p.points 1 18)) <;> simp [hbb] at h22_ ⊢
    all_goals (first | rfl | (subst h22_; rfl) | simp_all)
  refine RW_d _ rfl (fun v => by dsimp only [List.set]; try rfl) (fun u hu hF => ?_) (fun v24 => ?_)
  · have h23_ : v23 = (Bo β1) := hF.1
    clear hF
    refine doesG_un rfl ?_
    obtain rfl := h23_
    refine (does_move (u := (Bo β1)) (ev rfl)).mono ?_; rintro _ _ ⟨rfl, rfl⟩
    exact ⟨rfl, Ext.refl _⟩
  refine RW_d _ rfl (fun v => by dsimp only [List.set]; try rfl) (fun u hu hF => ?_) (fun v25 => ?_)
  · have h24_ : v24 = (Bo β1) := hF.1
    clear hF
    obtain rfl := h24_
    refine doesG_g (b := β1) rfl (yld rfl rfl) (fun hg1 => ?_) (fun hc => ⟨fun hg1 => absurd hg1 hc, Ext.refl _⟩)
    refine (does_move (u := (Iv (A_p.steps.length : Int))) (ev rfl)).mono ?_; rintro _ _ ⟨rfl, rfl⟩
    exact ⟨fun _ => rfl, Ext.refl _⟩
  refine RW_d _ rfl (fun v => by dsimp only [List.set]; try rfl) (fun u hu hF => ?_) (fun v26 => ?_)
  · have h25_ : β1 = false → v25 = (Iv (A_p.steps.length : Int)) := hF.1
    have h24_ : v24 = (Bo β1) := hF.2.1
    clear hF
    obtain rfl := h24_
    refine doesG_g (b := β1) rfl (yld rfl rfl) (fun hg1 => ?_) (fun hc => ⟨fun hg1 => absurd hg1 hc, Ext.refl _⟩)
    obtain rfl := h25_ hg1
    refine (does_icmp (p := (A_p.steps.length : Int)) (q := 1) (.inr (.inr (.inl rfl))) (ev rfl) (ev rfl)).mono ?_; rintro _ _ ⟨rfl, rfl⟩
    exact ⟨fun _ => (by first | rfl | (show _ = _; simp only [hβ2])), Ext.refl _⟩
  refine RW_d _ rfl (fun v => by dsimp only [List.set]; try rfl) (fun u hu hF => ?_) (fun v27 => ?_)
  · have h24_ : v24 = (Bo β1) := hF.1
    have h26_ : β1 = false → v26 = (Bo β2) := hF.2.1
    clear hF
    refine doesG_un rfl ?_
    skip
    obtain rfl := h24_
    refine (does_pick (b := β1) (ev rfl) (ev rfl) (ev rfl)).mono ?_; rintro _ _ ⟨rfl, rfl⟩; refine ⟨?_, Ext.refl _⟩; skip
    cases hbb : β1 <;> simp [hbb] at h26_ ⊢
    all_goals (first | rfl | (subst h26_; rfl) | simp_all)
  refine RW_d _ rfl (fun v => by dsimp only [List.set]; try rfl) (fun u hu hF => ?_) (fun v28 => ?_)
  · have h27_ : v27 = (Bo (β1 || β2)) := hF.1
    clear hF
    refine doesG_un rfl ?_
    obtain rfl := h27_
    refine (does_move (u := (Bo (β1 || β2))) (ev rfl)).mono ?_; rintro _ _ ⟨rfl, rfl⟩
    exact ⟨rfl, Ext.refl _⟩
  refine RW_d _ rfl (fun v => by dsimp only [List.set]; try rfl) (fun u hu hF => ?_) (fun v29 => ?_)
  · have h28_ : v28 = (Bo (β1 || β2)) := hF.1
    clear hF
    obtain rfl := h28_
    refine doesG_g (b := (β1 || β2)) rfl (yld rfl rfl) (fun hg1 => ?_) (fun hc => ⟨fun hg1 => absurd hg1 hc, Ext.refl _⟩)
    refine (does_move (u := (Iv (A_p.steps.length : Int))) (ev rfl)).mono ?_; rintro _ _ ⟨rfl, rfl⟩
    exact ⟨fun _ => rfl, Ext.refl _⟩
  refine RW_d _ rfl (fun v => by dsimp only [List.set]; try rfl) (fun u hu hF => ?_) (fun v30 => ?_)
  · have h29_ : (β1 || β2) = false → v29 = (Iv (A_p.steps.length : Int)) := hF.1
    have h28_ : v28 = (Bo (β1 || β2)) := hF.2.1
    clear hF
    obtain rfl := h28_
    refine doesG_g (b := (β1 || β2)) rfl (yld rfl rfl) (fun hg1 => ?_) (fun hc => ⟨fun hg1 => absurd hg1 hc, Ext.refl _⟩)
    obtain rfl := h29_ hg1
    refine (does_icmp (p := (A_p.steps.length : Int)) (q := 40) (.inr (.inr (.inr (.inr (.inl rfl))))) (ev rfl) (ev rfl)).mono ?_; rintro _ _ ⟨rfl, rfl⟩
    exact ⟨fun _ => (by first | rfl | (show _ = _; simp only [hβ3])), Ext.refl _⟩
  refine RW_d _ rfl (fun v => by dsimp only [List.set]; try rfl) (fun u hu hF => ?_) (fun v31 => ?_)
  · have h28_ : v28 = (Bo (β1 || β2)) := hF.1
    have h30_ : (β1 || β2) = false → v30 = (Bo β3) := hF.2.1
    clear hF
    refine doesG_un rfl ?_
    skip
    obtain rfl := h28_
    refine (does_pick (b := (β1 || β2)) (ev rfl) (ev rfl) (ev rfl)).mono ?_; rintro _ _ ⟨rfl, rfl⟩; refine ⟨?_, Ext.refl _⟩; skip
    cases hbb : (β1 || β2) <;> simp [hbb] at h30_ ⊢
    all_goals (first | rfl | (subst h30_; rfl) | simp_all)
  refine RW_fin ?_; intro w32 E33 hP34
  obtain ⟨⟨⟨⟨⟨⟨⟨⟨⟨⟨⟨⟨⟨⟨⟨⟨⟨⟨⟨⟨⟨⟨-, -⟩, -⟩, -⟩, -⟩, -⟩, -⟩, -⟩, -⟩, -⟩, -⟩, -⟩, -⟩, -⟩, -⟩, -⟩, -⟩, -⟩, -⟩, -⟩, -⟩, -⟩, q35⟩ := hP34
  have X36 := Ext.gr (Ext.refl w) E33
  have q35 : v31 = (Bo ((β1 || β2) || β3)) := q35
  obtain rfl := q35
  show wpList _ _ _ _ (fr [(Pt p_b p_o), Ud, (Bo false), (Iv (A_p.steps.length : Int)), Ud, (Pt p_b p_o), (Pt p_b p_o), (Pt p_b (p_o + 2)), (.slice p3 A_p.steps.length q4), (Iv (A_p.steps.length : Int)), v10, v11, v12, v13, v14, v15, v16, v17, v18, v19, v20, v21, v22, v23, v24, v25, v26, v27, v28, v29, v30, (Bo ((β1 || β2) || β3)), Ud, Ud, Ud, Ud, Ud, Ud, Ud, Ud, Ud, Ud, Ud, Ud, Ud, Ud, Ud, Ud, Ud, Ud, Ud, Ud, Ud, Ud, Ud, Ud, Ud, Ud, Ud, Ud, Ud, Ud, Ud, Ud, Ud, Ud, Ud, Ud, Ud, Ud, Ud, Ud]) _
  refine wpList_nil (hK9 _ _ ?_)
  refine wp_cond_split (t := (β1 || β2) || β3) (ev rfl) (fun c37 => ?_) (fun c37 => ?_)
  · have c37' := c37
    (try simp only [hβ1, hβ2, hβ3] at c37')
    (try simp only [icmp, Bool.and_eq_true, Bool.or_eq_true, Bool.and_eq_false_iff, Bool.or_eq_false_iff, Bool.not_eq_true', Bool.not_eq_false', decide_eq_true_eq, decide_eq_false_iff_not, beq_iff_eq, bne_iff_ne, beq_eq_false_iff_ne, bne_eq_false_iff_eq] at c37')
    refine wp_seq_k fun K38 hK38 => ?_
    refine wp_region_lit ?_
    refine q_is rfl rfl (does_assign (u := (Bo false)) (ev rfl)) (by dsimp only [List.set]; try rfl) ?_
    refine wpList_nil (hK38 _ _ ?_)
    refine wp_ret ?_
    dsimp only [Exit.then, Exit.inBlock]
    refine ret_val (v := (Bo false)) (res_T rfl (slot rfl)) X36 ?_
    try simp only [hβ1, hβ2, hβ3] at c37
    have x39 : (progOk A_p) = false := by first | exact progOk_bad (by assumption) (by assumption) | exact progOk_fs (by assumption) | exact progOk_fi (by assumption) | (rw [progOk_ts (by assumption) hal (by omega), lastOk_of' (by assumption)]; first | done | (simp only [hβ1, hβ2, hβ3, c37]; done)) | (rw [progOk_ti (by assumption) hal (by omega), lastOk_of' (by assumption)]; first | done | (simp only [hβ1, hβ2, hβ3, c37]; done))
    exact (by first | rfl | rw [x39])
  have c37' := c37
  (try simp only [hβ1, hβ2, hβ3] at c37')
  (try simp only [icmp, Bool.and_eq_true, Bool.or_eq_true, Bool.and_eq_false_iff, Bool.or_eq_false_iff, Bool.not_eq_true', Bool.not_eq_false', decide_eq_true_eq, decide_eq_false_iff_not, beq_iff_eq, bne_iff_ne, beq_eq_false_iff_ne, bne_eq_false_iff_eq] at c37')
  refine wp_skip (hK8 _ _ ?_)
  refine wp_seq_k fun K40 hK40 => ?_
  refine wp_seq_k fun K41 hK41 => ?_
  refine wp_region_lit ?_
  refine q_is rfl rfl (does_move (u := (Pt p_b p_o)) (ev rfl)) (by dsimp only [List.set]; try rfl) ?_
  refine q_is rfl rfl (does_nilCheck (ev rfl)) (by dsimp only [List.set]; try rfl) ?_
  refine q_is rfl rfl (does_fieldAddr (ev rfl) fa38_2) (by dsimp only [List.set]; try rfl) ?_
  refine q_is rfl rfl (does_load (u := (.slice p3 A_p.steps.length q4)) (ev rfl) Try.isAgg36 (Cells.at (hc_p.ext X36) 2 rfl)) (by dsimp only [List.set]; try rfl) ?_
  refine q_is rfl rfl (does_len_slice Try.underlying36 (ev rfl)) (by dsimp only [List.set]; try rfl) ?_
  refine q_is rfl rfl (does_move (u := (Iv 0)) (ev rfl)) (by dsimp only [List.set]; try rfl) ?_
  refine wpList_nil (hK41 _ _ ?_)
  refine wp_block ?_
  refine loop_ghost (σ := Nat) (fun k a w' => ∃ u42 : Nat → Value, a = fr [(Pt p_b p_o), Ud, (u42 2), (Iv (A_p.steps.length : Int)), (u42 4), (Pt p_b p_o), (Pt p_b p_o), (Pt p_b (p_o + 2)), (.slice p3 A_p.steps.length q4), (Iv (A_p.steps.length : Int)), v10, v11, v12, v13, v14, v15, v16, v17, v18, v19, v20, v21, v22, v23, v24, v25, v26, v27, v28, v29, v30, (Bo ((β1 || β2) || β3)), (Pt p_b p_o), (Pt p_b p_o), (Pt p_b (p_o + 2)), (.slice p3 A_p.steps.length q4), (Iv (A_p.steps.length : Int)), (Iv (k : Int)), (u42 38), (u42 39), (u42 40), (u42 41), (u42 42), (u42 43), (u42 44), (u42 45), (u42 46), (u42 47), (u42 48), (u42 49), Ud, Ud, Ud, Ud, Ud, Ud, Ud, Ud, Ud, Ud, Ud, Ud, Ud, Ud, Ud, Ud, Ud, Ud, Ud, Ud, Ud, Ud] ∧ Ext w32 w' ∧ (k ≤ A_p.steps.length ∧ AllTo (stepOk A_p) A_p.steps k)) (fun k => A_p.steps.length - k) 0 ?_ ?_
  · refine ⟨fun t => (([(Pt p_b p_o), Ud, (Bo false), (Iv (A_p.steps.length : Int)), Ud, (Pt p_b p_o), (Pt p_b p_o), (Pt p_b (p_o + 2)), (.slice p3 A_p.steps.length q4), (Iv (A_p.steps.length : Int)), v10, v11, v12, v13, v14, v15, v16, v17, v18, v19, v20, v21, v22, v23, v24, v25, v26, v27, v28, v29, v30, (Bo ((β1 || β2) || β3)), (Pt p_b p_o), (Pt p_b p_o), (Pt p_b (p_o + 2)), (.slice p3 A_p.steps.length q4), (Iv (A_p.steps.length : Int)), (Iv 0), Ud, Ud, Ud, Ud, Ud, Ud, Ud, Ud, Ud, Ud, Ud, Ud, Ud, Ud, Ud, Ud, Ud, Ud, Ud, Ud, Ud, Ud, Ud, Ud, Ud, Ud, Ud, Ud, Ud, Ud, Ud, Ud, Ud, Ud] : List Value)[t]?).getD undef, rfl, Ext.refl _, ?_⟩
    exact ⟨Nat.zero_le _, AllTo.zero⟩
  · rintro k a w43 ⟨u42, rfl, E44, ⟨hk, hal⟩⟩
    have X46 := Ext.gr X36 E44
    refine wp_seq_k fun K47 hK47 => ?_
    refine wp_region_lit ?_
    refine q_is rfl rfl (does_icmp (p := (k : Int)) (q := (A_p.steps.length : Int)) (.inr (.inr (.inl rfl))) (ev rfl) (ev rfl)) (by dsimp only [List.set]; try rfl) ?_
    refine wpList_nil (hK47 _ _ ?_)
    refine wp_seq_k fun K48 hK48 => ?_
    refine wp_cond_split (t := icmp .lss (k : Int) (A_p.steps.length : Int)) (ev rfl) (fun c49 => ?_) (fun c49 => ?_)
    · have c49' := c49
      (try simp only [hβ1, hβ2, hβ3] at c49')
      (try simp only [icmp, Bool.and_eq_true, Bool.or_eq_true, Bool.and_eq_false_iff, Bool.or_eq_false_iff, Bool.not_eq_true', Bool.not_eq_false', decide_eq_true_eq, decide_eq_false_iff_not, beq_iff_eq, bne_iff_ne, beq_eq_false_iff_ne, bne_eq_false_iff_eq] at c49')
      refine wp_skip (hK48 _ _ ?_)
      refine wp_seq_k fun K50 hK50 => ?_
      refine wp_block ?_
      refine wp_seq_k fun K51 hK51 => ?_
      refine wp_region_lit ?_
      refine q_is rfl rfl (does_move (u := (Iv (k : Int))) (ev rfl)) (by dsimp only [List.set]; try rfl) ?_
      refine q_is rfl rfl (does_assign (u := (Iv (k : Int))) (ev rfl)) (by dsimp only [List.set]; try rfl) ?_
      refine wpList_nil (hK51 _ _ ?_)
      refine wp_seq_k fun K52 hK52 => ?_
      refine wp_region_lit ?_
      refine q_is rfl rfl (does_move (u := (Pt p_b p_o)) (ev rfl)) (by dsimp only [List.set]; try rfl) ?_
      refine q_is rfl rfl (does_move (u := (Pt p_b p_o)) (ev rfl)) (by dsimp only [List.set]; try rfl) ?_
      refine q_is rfl rfl (does_nilCheck (ev rfl)) (by dsimp only [List.set]; try rfl) ?_
      refine q_is rfl rfl (does_fieldAddr (ev rfl) fa38_2) (by dsimp only [List.set]; try rfl) ?_
      refine q_is rfl rfl (does_load (u := (.slice p3 A_p.steps.length q4)) (ev rfl) Try.isAgg36 (Cells.at (hc_p.ext X46) 2 rfl)) (by dsimp only [List.set]; try rfl) ?_
      refine q_is rfl rfl (does_move (u := (Iv (k : Int))) (ev rfl)) (by dsimp only [List.set]; try rfl) ?_
      obtain ⟨el1, hel1⟩ : ∃ e, A_p.steps[k]? = some e := ⟨_, List.getElem?_eq_getElem (by omega)⟩
      refine seqd rfl rfl (does_indexSl (R := RStepT) (i := (k : Int)) (xs := A_p.steps) (e := el1) Try.underlying36 Try.sizeOf100 (ev rfl) (ev rfl) (Sl.ext hs5 RStepT.mono X46) (by omega) hel1) ?_; rintro _ w43 ⟨b53, o54, _, rfl, hc56, ⟨y57, rfl, h58⟩, rfl⟩
      have hs61 := h58; have hs61l := Sl.len h58; obtain ⟨p59, q60, rfl⟩ := Sl.shape h58
      show wpList _ _ _ _ (fr [(Pt p_b p_o), Ud, (u42 2), (Iv (A_p.steps.length : Int)), (Iv (k : Int)), (Pt p_b p_o), (Pt p_b p_o), (Pt p_b (p_o + 2)), (.slice p3 A_p.steps.length q4), (Iv (A_p.steps.length : Int)), v10, v11, v12, v13, v14, v15, v16, v17, v18, v19, v20, v21, v22, v23, v24, v25, v26, v27, v28, v29, v30, (Bo ((β1 || β2) || β3)), (Pt p_b p_o), (Pt p_b p_o), (Pt p_b (p_o + 2)), (.slice p3 A_p.steps.length q4), (Iv (A_p.steps.length : Int)), (Iv (k : Int)), (Bo (icmp .lss (k : Int) (A_p.steps.length : Int))), (Iv (k : Int)), (Pt p_b p_o), (Pt p_b p_o), (Pt p_b p_o), (Pt p_b (p_o + 2)), (.slice p3 A_p.steps.length q4), (Iv (k : Int)), (Pt b53 o54), (u42 47), (u42 48), (u42 49), Ud, Ud, Ud, Ud, Ud, Ud, Ud, Ud, Ud, Ud, Ud, Ud, Ud, Ud, Ud, Ud, Ud, Ud, Ud, Ud, Ud, Ud]) _
      refine seqd rfl rfl (does_call (args := #[(Pt p_b p_o), (Pt b53 o54)]) cal98 (evs rfl) (c_spec_l05Step p_b p_o [(Iv A_p.points), (Iv A_p.values), (.slice p3 A_p.steps.length q4)] A_p b53 o54 [(Iv el1.kind), (Iv el1.to), (Iv el1.a), (Iv el1.b), (Iv el1.node.kind), (Iv el1.node.a), (Iv el1.node.b), (.slice p59 el1.node.nums.length q60)] el1 _ (hc_p.ext X46) ⟨(.slice p3 A_p.steps.length q4), rfl, (Sl.ext hs5 RStepT.mono X46)⟩ hc56 ⟨(.slice p59 el1.node.nums.length q60), rfl, hs61⟩)) ?_; rintro _ w63 ⟨E62, rfl⟩
      have X64 := Ext.gr X46 E62
      show wpList _ _ _ _ (fr [(Pt p_b p_o), Ud, (u42 2), (Iv (A_p.steps.length : Int)), (Iv (k : Int)), (Pt p_b p_o), (Pt p_b p_o), (Pt p_b (p_o + 2)), (.slice p3 A_p.steps.length q4), (Iv (A_p.steps.length : Int)), v10, v11, v12, v13, v14, v15, v16, v17, v18, v19, v20, v21, v22, v23, v24, v25, v26, v27, v28, v29, v30, (Bo ((β1 || β2) || β3)), (Pt p_b p_o), (Pt p_b p_o), (Pt p_b (p_o + 2)), (.slice p3 A_p.steps.length q4), (Iv (A_p.steps.length : Int)), (Iv (k : Int)), (Bo (icmp .lss (k : Int) (A_p.steps.length : Int))), (Iv (k : Int)), (Pt p_b p_o), (Pt p_b p_o), (Pt p_b p_o), (Pt p_b (p_o + 2)), (.slice p3 A_p.steps.length q4), (Iv (k : Int)), (Pt b53 o54), (Bo (stepOk A_p el1)), (u42 48), (u42 49), Ud, Ud, Ud, Ud, Ud, Ud, Ud, Ud, Ud, Ud, Ud, Ud, Ud, Ud, Ud, Ud, Ud, Ud, Ud, Ud, Ud, Ud]) _
      refine q_is rfl rfl (does_not (ev rfl)) (by dsimp only [List.set]; try rfl) ?_
      refine wpList_nil (hK52 _ _ ?_)
      refine wp_cond_split (t := !(stepOk A_p el1)) (ev rfl) (fun c65 => ?_) (fun c65 => ?_)
      · rw [Bool.not_eq_true'] at c65
        have c65' := c65
        (try simp only [hβ1, hβ2, hβ3] at c65')
        (try simp only [icmp, Bool.and_eq_true, Bool.or_eq_true, Bool.and_eq_false_iff, Bool.or_eq_false_iff, Bool.not_eq_true', Bool.not_eq_false', decide_eq_true_eq, decide_eq_false_iff_not, beq_iff_eq, bne_iff_ne, beq_eq_false_iff_ne, bne_eq_false_iff_eq] at c65')
        refine wp_seq_k fun K66 hK66 => ?_
        refine wp_region_lit ?_
        refine q_is rfl rfl (does_assign (u := (Bo false)) (ev rfl)) (by dsimp only [List.set]; try rfl) ?_
        refine wpList_nil (hK66 _ _ ?_)
        refine wp_ret ?_
        dsimp only [Exit.then, Exit.inBlock]
        refine ret_val (v := (Bo false)) (res_T rfl (slot rfl)) X64 ?_
        try simp only [hβ1, hβ2, hβ3, hel1] at c37 c49 c65
        have x67 : (progOk A_p) = false := by first | exact progOk_bad (by assumption) (by assumption) | exact progOk_fs (by assumption) | exact progOk_fi (by assumption) | (rw [progOk_ts (by assumption) hal (by omega), lastOk_of' (by assumption)]; first | done | (simp only [hβ1, hβ2, hβ3, hel1, c37, c49, c65]; done)) | (rw [progOk_ti (by assumption) hal (by omega), lastOk_of' (by assumption)]; first | done | (simp only [hβ1, hβ2, hβ3, hel1, c37, c49, c65]; done))
        exact (by first | rfl | rw [x67])
      rw [Bool.not_eq_false'] at c65
      have c65' := c65
      (try simp only [hβ1, hβ2, hβ3] at c65')
      (try simp only [icmp, Bool.and_eq_true, Bool.or_eq_true, Bool.and_eq_false_iff, Bool.or_eq_false_iff, Bool.not_eq_true', Bool.not_eq_false', decide_eq_true_eq, decide_eq_false_iff_not, beq_iff_eq, bne_iff_ne, beq_eq_false_iff_ne, bne_eq_false_iff_eq] at c65')
      refine wp_skip (hK50 _ _ ?_)
      refine wp_region_lit ?_
      refine q_is rfl rfl (does_iarith (p := (k : Int)) (q := 1) (r := (k : Int) + 1) (ev rfl) (ev rfl) (.inl ⟨rfl, (in_i64 (by omega) (by omega)).symm⟩)) (by dsimp only [List.set]; try rfl) ?_
      refine q_is rfl rfl (does_move (u := (Iv ((k : Int) + 1))) (ev rfl)) (by dsimp only [List.set]; try rfl) ?_
      refine wpList_nil ?_
      refine ⟨k + 1, ⟨fun t => (([(Pt p_b p_o), Ud, (u42 2), (Iv (A_p.steps.length : Int)), (Iv (k : Int)), (Pt p_b p_o), (Pt p_b p_o), (Pt p_b (p_o + 2)), (.slice p3 A_p.steps.length q4), (Iv (A_p.steps.length : Int)), v10, v11, v12, v13, v14, v15, v16, v17, v18, v19, v20, v21, v22, v23, v24, v25, v26, v27, v28, v29, v30, (Bo ((β1 || β2) || β3)), (Pt p_b p_o), (Pt p_b p_o), (Pt p_b (p_o + 2)), (.slice p3 A_p.steps.length q4), (Iv (A_p.steps.length : Int)), (Iv ((k : Int) + 1)), (Bo (icmp .lss (k : Int) (A_p.steps.length : Int))), (Iv (k : Int)), (Pt p_b p_o), (Pt p_b p_o), (Pt p_b p_o), (Pt p_b (p_o + 2)), (.slice p3 A_p.steps.length q4), (Iv (k : Int)), (Pt b53 o54), (Bo (stepOk A_p el1)), (Bo (!(stepOk A_p el1))), (Iv ((k : Int) + 1)), Ud, Ud, Ud, Ud, Ud, Ud, Ud, Ud, Ud, Ud, Ud, Ud, Ud, Ud, Ud, Ud, Ud, Ud, Ud, Ud, Ud, Ud] : List Value)[t]?).getD undef, ?_, (Ext.gr E44 E62), ?_⟩, ?_⟩
      · first | rfl | (simp only [Nat.cast_add, Nat.cast_one, Int.natCast_add, Int.natCast_one]; rfl)
      · exact ⟨by omega, AllTo.step hal (by assumption) (by assumption)⟩
      · omega
    have c49' := c49
    (try simp only [hβ1, hβ2, hβ3] at c49')
    (try simp only [icmp, Bool.and_eq_true, Bool.or_eq_true, Bool.and_eq_false_iff, Bool.or_eq_false_iff, Bool.not_eq_true', Bool.not_eq_false', decide_eq_true_eq, decide_eq_false_iff_not, beq_iff_eq, bne_iff_ne, beq_eq_false_iff_ne, bne_eq_false_iff_eq] at c49')
    refine wp_exit ?_
    refine hK40 _ _ ?_
    refine wp_seq_k fun K68 hK68 => ?_
    obtain ⟨el2, hel2⟩ : ∃ e, A_p.steps[((A_p.steps.length : Int) - 1).toNat]? = some e := ⟨_, List.getElem?_eq_getElem (by omega)⟩
    obtain ⟨β4, hβ4⟩ : ∃ b : Bool, b = ((icmp .eql el2.to 0) && (icmp .neq el2.kind 0)) := ⟨_, rfl⟩
    refine region_text (
      [Fact.pure [] (fun v => v = (Pt p_b p_o)),
    Fact.pure [50] (fun v => v = (Pt p_b p_o)),
    Fact.pure [51] (fun v => v = (Pt p_b (p_o + 2))),
    Fact.pure [52] (fun v => v = (.slice p3 A_p.steps.length q4)),
    Fact.pure [] (fun v => v = (Iv (A_p.steps.length : Int))),
    Fact.pure [54] (fun v => v = (Iv ((A_p.steps.length : Int) - 1))),
    Fact.mem [53, 55] (fun v w' => PtrR RStepT w' v el2) (by intro v w1 w2 hx h; exact h.ext RStepT.mono hx),
    Fact.mem [56] (fun v w' => ∃ b o cs, v = .pointer (some ⟨b, o + 1, none⟩) ∧ Cells w' b o cs ∧ RStepT w' el2 cs) (by intro v w1 w2 hx h; obtain ⟨b, o, cs, hv, hc, hr⟩ := h; exact ⟨b, o, cs, hv, hc.ext hx, RStepT.mono _ _ _ _ hx hr⟩),
    Fact.pure [57] (fun v => v = (Iv el2.to)),
    Fact.pure [58] (fun v => v = (Bo (icmp .eql el2.to 0))),
    Fact.pure [59] (fun v => v = (Bo (icmp .eql el2.to 0))),
    Fact.pure [60] (fun v => (icmp .eql el2.to 0) = true → v = (Pt p_b p_o)),
    Fact.pure [61, 60] (fun v => (icmp .eql el2.to 0) = true → v = (Pt p_b p_o)),
    Fact.pure [62, 60] (fun v => (icmp .eql el2.to 0) = true → v = (Pt p_b (p_o + 2))),
    Fact.pure [63, 60] (fun v => (icmp .eql el2.to 0) = true → v = (.slice p3 A_p.steps.length q4)),
    Fact.pure [60] (fun v => (icmp .eql el2.to 0) = true → v = (Iv (A_p.steps.length : Int))),
    Fact.pure [65, 60] (fun v => (icmp .eql el2.to 0) = true → v = (Iv ((A_p.steps.length : Int) - 1))),
    Fact.mem [64, 66, 60] (fun v w' => (icmp .eql el2.to 0) = true → PtrR RStepT w' v el2) (by intro v w1 w2 hx h; exact fun hg1 => (h hg1).ext RStepT.mono hx),
    Fact.mem [67, 60] (fun v w' => (icmp .eql el2.to 0) = true → ∃ b o cs, v = .pointer (some ⟨b, o + 0, none⟩) ∧ Cells w' b o cs ∧ RStepT w' el2 cs) (by intro v w1 w2 hx h hg1; obtain ⟨b, o, cs, hv, hc, hr⟩ := h hg1; exact ⟨b, o, cs, hv, hc.ext hx, RStepT.mono _ _ _ _ hx hr⟩),
    Fact.pure [68, 60] (fun v => (icmp .eql el2.to 0) = true → v = (Iv el2.kind)),
    Fact.pure [69, 60] (fun v => (icmp .eql el2.to 0) = true → v = (Bo (icmp .neq el2.kind 0))),
    Fact.pure [60, 70] (fun v => v = (Bo β4))]) (by simp [Fact.pure, Fact.mem]) ?_
    refine RW_d _ rfl (fun v => by dsimp only [List.set]; try rfl) (fun u hu hF => ?_) (fun v69 => ?_)
    · clear hF
      refine doesG_un rfl ?_
      refine (does_move (u := (Pt p_b p_o)) (ev rfl)).mono ?_; rintro _ _ ⟨rfl, rfl⟩
      exact ⟨rfl, Ext.refl _⟩
    refine RW_d _ rfl (fun v => by dsimp only [List.set]; try rfl) (fun u hu hF => ?_) (fun v70 => ?_)
    · have h50_ : v69 = (Pt p_b p_o) := hF.1
      clear hF
      refine doesG_un rfl ?_
      obtain rfl := h50_
      refine (does_nilCheck (ev rfl)).mono ?_; rintro _ _ ⟨rfl, rfl⟩
      exact ⟨rfl, Ext.refl _⟩
    refine RW_d _ rfl (fun v => by dsimp only [List.set]; try rfl) (fun u hu hF => ?_) (fun v71 => ?_)
    · have h51_ : v70 = (Pt p_b p_o) := hF.1
      clear hF
      refine doesG_un rfl ?_
      obtain rfl := h51_
      refine (does_fieldAddr (ev rfl) fa38_2).mono ?_; rintro _ _ ⟨rfl, rfl⟩
      exact ⟨rfl, Ext.refl _⟩
    refine RW_d _ rfl (fun v => by dsimp only [List.set]; try rfl) (fun u hu hF => ?_) (fun v72 => ?_)
    · have h52_ : v71 = (Pt p_b (p_o + 2)) := hF.1
      clear hF
      refine doesG_un rfl ?_
      obtain rfl := h52_
      refine (does_load (u := (.slice p3 A_p.steps.length q4)) (ev rfl) Try.isAgg36 (Cells.at ((hc_p.ext X46).ext hu) 2 rfl)).mono ?_; rintro _ _ ⟨rfl, rfl⟩
      exact ⟨rfl, Ext.refl _⟩
    refine RW_d _ rfl (fun v => by dsimp only [List.set]; try rfl) (fun u hu hF => ?_) (fun v73 => ?_)
    · clear hF
      refine doesG_un rfl ?_
      refine (does_move (u := (Iv (A_p.steps.length : Int))) (ev rfl)).mono ?_; rintro _ _ ⟨rfl, rfl⟩
      exact ⟨rfl, Ext.refl _⟩
    refine RW_d _ rfl (fun v => by dsimp only [List.set]; try rfl) (fun u hu hF => ?_) (fun v74 => ?_)
    · have h54_ : v73 = (Iv (A_p.steps.length : Int)) := hF.1
      clear hF
      refine doesG_un rfl ?_
      obtain rfl := h54_
      refine (does_iarith (p := (A_p.steps.length : Int)) (q := 1) (r := (A_p.steps.length : Int) - 1) (ev rfl) (ev rfl) (.inr (.inl ⟨rfl, (in_i64 (by omega) (by omega)).symm⟩))).mono ?_; rintro _ _ ⟨rfl, rfl⟩
      exact ⟨rfl, Ext.refl _⟩
    refine RW_d _ rfl (fun v => by dsimp only [List.set]; try rfl) (fun u hu hF => ?_) (fun v75 => ?_)
    · have h53_ : v72 = (.slice p3 A_p.steps.length q4) := hF.1
      have h55_ : v74 = (Iv ((A_p.steps.length : Int) - 1)) := hF.2.1
      clear hF
      refine doesG_un rfl ?_
      obtain rfl := h53_
      obtain rfl := h55_
      refine (does_indexSl (R := RStepT) (i := (A_p.steps.length : Int) - 1) (xs := A_p.steps) (e := el2) Try.underlying36 Try.sizeOf100 (ev rfl) (ev rfl) (Sl.ext (Sl.ext hs5 RStepT.mono X46) RStepT.mono hu) (by omega) hel2).mono ?_; rintro v u' ⟨b, of, cs, hv, hc, hR, hu'⟩; subst hu'
      exact ⟨⟨b, of, cs, hv, hc, hR⟩, Ext.refl _⟩
    refine RW_d _ rfl (fun v => by dsimp only [List.set]; try rfl) (fun u hu hF => ?_) (fun v76 => ?_)
    · have h56_ : PtrR RStepT u v75 el2 := hF.1
      clear hF
      refine doesG_un rfl ?_
      obtain ⟨b56_, o56_, cs, rfl, hc, hr⟩ := h56_
      refine (does_fieldAddr (ev rfl) fa100_1).mono ?_; rintro _ _ ⟨rfl, rfl⟩; exact ⟨⟨_, _, _, rfl, hc, hr⟩, Ext.refl _⟩
    refine RW_d _ rfl (fun v => by dsimp only [List.set]; try rfl) (fun u hu hF => ?_) (fun v77 => ?_)
    · have h57_ : ∃ b o cs, v76 = .pointer (some ⟨b, o + 1, none⟩) ∧ Cells u b o cs ∧ RStepT u el2 cs := hF.1
      clear hF
      refine doesG_un rfl ?_
      obtain ⟨b57_, o57_, _, rfl, hc57_, ⟨y57_1, rfl, h57_2⟩⟩ := h57_
      have hh57_2 := h57_2; obtain ⟨p57_3, q57_4, rfl⟩ := Sl.shape h57_2
      refine (does_load (u := (Iv el2.to)) (ev rfl) Try.isAgg2 (Cells.at hc57_ 1 rfl)).mono ?_; rintro _ _ ⟨rfl, rfl⟩
      exact ⟨rfl, Ext.refl _⟩
    refine RW_d _ rfl (fun v => by dsimp only [List.set]; try rfl) (fun u hu hF => ?_) (fun v78 => ?_)
    · have h58_ : v77 = (Iv el2.to) := hF.1
      clear hF
      refine doesG_un rfl ?_
      obtain rfl := h58_
      refine (does_icmp (p := el2.to) (q := 0) (.inl rfl) (ev rfl) (ev rfl)).mono ?_; rintro _ _ ⟨rfl, rfl⟩
      exact ⟨rfl, Ext.refl _⟩
    refine RW_d _ rfl (fun v => by dsimp only [List.set]; try rfl) (fun u hu hF => ?_) (fun v79 => ?_)
    · have h59_ : v78 = (Bo (icmp .eql el2.to 0)) := hF.1
      clear hF
      refine doesG_un rfl ?_
      obtain rfl := h59_
      refine (does_move (u := (Bo (icmp .eql el2.to 0))) (ev rfl)).mono ?_; rintro _ _ ⟨rfl, rfl⟩
      exact ⟨rfl, Ext.refl _⟩
    refine RW_d _ rfl (fun v => by dsimp only [List.set]; try rfl) (fun u hu hF => ?_) (fun v80 => ?_)
    · have h60_ : v79 = (Bo (icmp .eql el2.to 0)) := hF.1
      clear hF
      obtain rfl := h60_
      refine doesG_g (b := (icmp .eql el2.to 0)) rfl (yld rfl rfl) (fun hg1 => ?_) (fun hc => ⟨fun hg1 => absurd hg1 hc, Ext.refl _⟩)
      refine (does_move (u := (Pt p_b p_o)) (ev rfl)).mono ?_; rintro _ _ ⟨rfl, rfl⟩
      exact ⟨fun _ => rfl, Ext.refl _⟩
    refine RW_d _ rfl (fun v => by dsimp only [List.set]; try rfl) (fun u hu hF => ?_) (fun v81 => ?_)
    · have h61_ : (icmp .eql el2.to 0) = true → v80 = (Pt p_b p_o) := hF.1
      have h60_ : v79 = (Bo (icmp .eql el2.to 0)) := hF.2.1
      clear hF
      obtain rfl := h60_
      refine doesG_g (b := (icmp .eql el2.to 0)) rfl (yld rfl rfl) (fun hg1 => ?_) (fun hc => ⟨fun hg1 => absurd hg1 hc, Ext.refl _⟩)
      obtain rfl := h61_ hg1
      refine (does_nilCheck (ev rfl)).mono ?_; rintro _ _ ⟨rfl, rfl⟩
      exact ⟨fun _ => rfl, Ext.refl _⟩
    refine RW_d _ rfl (fun v => by dsimp only [List.set]; try rfl) (fun u hu hF => ?_) (fun v82 => ?_)
    · have h62_ : (icmp .eql el2.to 0) = true → v81 = (Pt p_b p_o) := hF.1
      have h60_ : v79 = (Bo (icmp .eql el2.to 0)) := hF.2.1
      clear hF
      obtain rfl := h60_
      refine doesG_g (b := (icmp .eql el2.to 0)) rfl (yld rfl rfl) (fun hg1 => ?_) (fun hc => ⟨fun hg1 => absurd hg1 hc, Ext.refl _⟩)
      obtain rfl := h62_ hg1
      refine (does_fieldAddr (ev rfl) fa38_2).mono ?_; rintro _ _ ⟨rfl, rfl⟩
      exact ⟨fun _ => rfl, Ext.refl _⟩
    refine RW_d _ rfl (fun v => by dsimp only [List.set]; try rfl) (fun u hu hF => ?_) (fun v83 => ?_)
    · have h63_ : (icmp .eql el2.to 0) = true → v82 = (Pt p_b (p_o + 2)) := hF.1
      have h60_ : v79 = (Bo (icmp .eql el2.to 0)) := hF.2.1
      clear hF
      obtain rfl := h60_
      refine doesG_g (b := (icmp .eql el2.to 0)) rfl (yld rfl rfl) (fun hg1 => ?_) (fun hc => ⟨fun hg1 => absurd hg1 hc, Ext.refl _⟩)
      obtain rfl := h63_ hg1
      refine (does_load (u := (.slice p3 A_p.steps.length q4)) (ev rfl) Try.isAgg36 (Cells.at ((hc_p.ext X46).ext hu) 2 rfl)).mono ?_; rintro _ _ ⟨rfl, rfl⟩
      exact ⟨fun _ => rfl, Ext.refl _⟩
    refine RW_d _ rfl (fun v => by dsimp only [List.set]; try rfl) (fun u hu hF => ?_) (fun v84 => ?_)
    · have h60_ : v79 = (Bo (icmp .eql el2.to 0)) := hF.1
      clear hF
      obtain rfl := h60_
      refine doesG_g (b := (icmp .eql el2.to 0)) rfl (yld rfl rfl) (fun hg1 => ?_) (fun hc => ⟨fun hg1 => absurd hg1 hc, Ext.refl _⟩)
      refine (does_move (u := (Iv (A_p.steps.length : Int))) (ev rfl)).mono ?_; rintro _ _ ⟨rfl, rfl⟩
      exact ⟨fun _ => rfl, Ext.refl _⟩
    refine RW_d _ rfl (fun v => by dsimp only [List.set]; try rfl) (fun u hu hF => ?_) (fun v85 => ?_)
    · have h65_ : (icmp .eql el2.to 0) = true → v84 = (Iv (A_p.steps.length : Int)) := hF.1
      have h60_ : v79 = (Bo (icmp .eql el2.to 0)) := hF.2.1
      clear hF
      obtain rfl := h60_
      refine doesG_g (b := (icmp .eql el2.to 0)) rfl (yld rfl rfl) (fun hg1 => ?_) (fun hc => ⟨fun hg1 => absurd hg1 hc, Ext.refl _⟩)
      obtain rfl := h65_ hg1
      refine (does_iarith (p := (A_p.steps.length : Int)) (q := 1) (r := (A_p.steps.length : Int) - 1) (ev rfl) (ev rfl) (.inr (.inl ⟨rfl, (in_i64 (by omega) (by omega)).symm⟩))).mono ?_; rintro _ _ ⟨rfl, rfl⟩
      exact ⟨fun _ => rfl, Ext.refl _⟩
    refine RW_d _ rfl (fun v => by dsimp only [List.set]; try rfl) (fun u hu hF => ?_) (fun v86 => ?_)
    · have h64_ : (icmp .eql el2.to 0) = true → v83 = (.slice p3 A_p.steps.length q4) := hF.1
      have h66_ : (icmp .eql el2.to 0) = true → v85 = (Iv ((A_p.steps.length : Int) - 1)) := hF.2.1
      have h60_ : v79 = (Bo (icmp .eql el2.to 0)) := hF.2.2.1
      clear hF
      obtain rfl := h60_
      refine doesG_g (b := (icmp .eql el2.to 0)) rfl (yld rfl rfl) (fun hg1 => ?_) (fun hc => ⟨fun hg1 => absurd hg1 hc, Ext.refl _⟩)
      obtain rfl := h64_ hg1
      obtain rfl := h66_ hg1
      refine (does_indexSl (R := RStepT) (i := (A_p.steps.length : Int) - 1) (xs := A_p.steps) (e := el2) Try.underlying36 Try.sizeOf100 (ev rfl) (ev rfl) (Sl.ext (Sl.ext hs5 RStepT.mono X46) RStepT.mono hu) (by omega) hel2).mono ?_; rintro v u' ⟨b, of, cs, hv, hc, hR, hu'⟩; subst hu'
      exact ⟨fun _ => ⟨b, of, cs, hv, hc, hR⟩, Ext.refl _⟩
    refine RW_d _ rfl (fun v => by dsimp only [List.set]; try rfl) (fun u hu hF => ?_) (fun v87 => ?_)
    · have h67_ : (icmp .eql el2.to 0) = true → PtrR RStepT u v86 el2 := hF.1
      have h60_ : v79 = (Bo (icmp .eql el2.to 0)) := hF.2.1
      clear hF
      obtain rfl := h60_
      refine doesG_g (b := (icmp .eql el2.to 0)) rfl (yld rfl rfl) (fun hg1 => ?_) (fun hc => ⟨fun hg1 => absurd hg1 hc, Ext.refl _⟩)
      obtain ⟨b67_, o67_, cs, rfl, hc, hr⟩ := h67_ hg1
      refine (does_fieldAddr (ev rfl) fa100_0).mono ?_; rintro _ _ ⟨rfl, rfl⟩; exact ⟨fun _ => ⟨_, _, _, rfl, hc, hr⟩, Ext.refl _⟩
    refine RW_d _ rfl (fun v => by dsimp only [List.set]; try rfl) (fun u hu hF => ?_) (fun v88 => ?_)
    · have h68_ : (icmp .eql el2.to 0) = true → ∃ b o cs, v87 = .pointer (some ⟨b, o + 0, none⟩) ∧ Cells u b o cs ∧ RStepT u el2 cs := hF.1
      have h60_ : v79 = (Bo (icmp .eql el2.to 0)) := hF.2.1
      clear hF
      obtain rfl := h60_
      refine doesG_g (b := (icmp .eql el2.to 0)) rfl (yld rfl rfl) (fun hg1 => ?_) (fun hc => ⟨fun hg1 => absurd hg1 hc, Ext.refl _⟩)
      obtain ⟨b68_, o68_, _, rfl, hc68_, ⟨y68_1, rfl, h68_2⟩⟩ := h68_ hg1
      have hh68_2 := h68_2; obtain ⟨p68_3, q68_4, rfl⟩ := Sl.shape h68_2
      refine (does_load (u := (Iv el2.kind)) (ev rfl) Try.isAgg2 (Cells.at hc68_ 0 rfl)).mono ?_; rintro _ _ ⟨rfl, rfl⟩
      exact ⟨fun _ => rfl, Ext.refl _⟩
    refine RW_d _ rfl (fun v => by dsimp only [List.set]; try rfl) (fun u hu hF => ?_) (fun v89 => ?_)
    · have h69_ : (icmp .eql el2.to 0) = true → v88 = (Iv el2.kind) := hF.1
      have h60_ : v79 = (Bo (icmp .eql el2.to 0)) := hF.2.1
      clear hF
      obtain rfl := h60_
      refine doesG_g (b := (icmp .eql el2.to 0)) rfl (yld rfl rfl) (fun hg1 => ?_) (fun hc => ⟨fun hg1 => absurd hg1 hc, Ext.refl _⟩)
      obtain rfl := h69_ hg1
      refine (does_icmp (p := el2.kind) (q := 0) (.inr (.inl rfl)) (ev rfl) (ev rfl)).mono ?_; rintro _ _ ⟨rfl, rfl⟩
      exact ⟨fun _ => rfl, Ext.refl _⟩
    refine RW_d _ rfl (fun v => by dsimp only [List.set]; try rfl) (fun u hu hF => ?_) (fun v90 => ?_)
    · have h60_ : v79 = (Bo (icmp .eql el2.to 0)) := hF.1
      have h70_ : (icmp .eql el2.to 0) = true → v89 = (Bo (icmp .neq el2.kind 0)) := hF.2.1
      clear hF
      refine doesG_un rfl ?_
      skip
      obtain rfl := h60_
      refine (does_pick (b := (icmp .eql el2.to 0)) (ev rfl) (ev rfl) (ev rfl)).mono ?_; rintro _ _ ⟨rfl, rfl⟩; refine ⟨?_, Ext.refl _⟩; rw [hβ4]; skip
      cases hbb : (icmp .eql el2.to 0) <;> simp [hbb] at h70_ ⊢
      all_goals (first | rfl | (subst h70_; rfl) | simp_all)
    refine RW_fin ?_; intro w91 E92 hP93
    obtain ⟨⟨⟨⟨⟨⟨⟨⟨⟨⟨⟨⟨⟨⟨⟨⟨⟨⟨⟨⟨⟨⟨-, -⟩, -⟩, -⟩, -⟩, -⟩, -⟩, -⟩, -⟩, -⟩, -⟩, -⟩, -⟩, -⟩, -⟩, -⟩, -⟩, -⟩, -⟩, -⟩, -⟩, -⟩, q94⟩ := hP93
    have X95 := Ext.gr X46 E92
    have q94 : v90 = (Bo β4) := q94
    obtain rfl := q94
    show wpList _ _ _ _ (fr [(Pt p_b p_o), Ud, (u42 2), (Iv (A_p.steps.length : Int)), (u42 4), (Pt p_b p_o), (Pt p_b p_o), (Pt p_b (p_o + 2)), (.slice p3 A_p.steps.length q4), (Iv (A_p.steps.length : Int)), v10, v11, v12, v13, v14, v15, v16, v17, v18, v19, v20, v21, v22, v23, v24, v25, v26, v27, v28, v29, v30, (Bo ((β1 || β2) || β3)), (Pt p_b p_o), (Pt p_b p_o), (Pt p_b (p_o + 2)), (.slice p3 A_p.steps.length q4), (Iv (A_p.steps.length : Int)), (Iv (k : Int)), (Bo (icmp .lss (k : Int) (A_p.steps.length : Int))), (u42 39), (u42 40), (u42 41), (u42 42), (u42 43), (u42 44), (u42 45), (u42 46), (u42 47), (u42 48), (u42 49), v69, v70, v71, v72, v73, v74, v75, v76, v77, v78, v79, v80, v81, v82, v83, v84, v85, v86, v87, v88, v89, (Bo β4)]) _
    refine q_is rfl rfl (does_assign (u := (Bo β4)) (ev rfl)) (by dsimp only [List.set]; try rfl) ?_
    refine wpList_nil (hK68 _ _ ?_)
    refine wp_ret ?_
    refine ret_val (v := (Bo β4)) (res_T rfl (slot rfl)) X95 ?_
    try simp only [hβ1, hβ2, hβ3, hβ4, hel2] at c37 c49
    have x96 : (progOk A_p) = β4 := by first | exact progOk_bad (by assumption) (by assumption) | exact progOk_fs (by assumption) | exact progOk_fi (by assumption) | (rw [progOk_ts (by assumption) hal (by omega), lastOk_of' (by assumption)]; first | done | (simp only [hβ1, hβ2, hβ3, hβ4, hel2, c37, c49]; done)) | (rw [progOk_ti (by assumption) hal (by omega), lastOk_of' (by assumption)]; first | done | (simp only [hβ1, hβ2, hβ3, hβ4, hel2, c37, c49]; done))
    exact (by first | rfl | rw [x96])

/- spec.ValidProgram -/
theorem c_spec_ValidProgram (p : List Value) (A_p : ProgT) (w : World) (hv_p : RProgT w A_p p) : Gives Try.prog 20 #[(.agg p.toArray)] w (fun v w' => v = (Bo (progOk A_p))) := by
  obtain ⟨y1, rfl, h2⟩ := hv_p
  have hs5 := h2; have hs5l := Sl.len h2; obtain ⟨p3, q4, rfl⟩ := Sl.shape h2
  refine enter [(.agg #[(Iv A_p.points), (Iv A_p.values), (.slice p3 A_p.steps.length q4)]), Ud, Ud, Ud] Try.func20 rfl Try.ntmps20 rfl ?_
  refine wp_seq_k fun K6 hK6 => ?_
  refine wp_region_lit ?_
  refine seqd rfl rfl (does_box (u := (.agg #[(Iv A_p.points), (Iv A_p.values), (.slice p3 A_p.steps.length q4)])) (ev rfl)) ?_; rintro _ w11 ⟨b7, rfl, hb8, hB9, E10⟩
  have g12 : w.heap.size ≤ b7 := Nat.le_trans (Below.size (Ext.refl w)) hb8
  change Blk _ _ [(Iv A_p.points), (Iv A_p.values), (.slice p3 A_p.steps.length q4)] at hB9
  have X13 := Ext.gr (Ext.refl w) E10
  show wpList _ _ _ _ (fr [(.agg #[(Iv A_p.points), (Iv A_p.values), (.slice p3 A_p.steps.length q4)]), (Pt b7 0), Ud, Ud]) _
  refine q_is (l' := [(.agg #[(Iv A_p.points), (Iv A_p.values), (.slice p3 A_p.steps.length q4)]), (Pt b7 0), (Bo false), Ud]) rfl rfl (does_assign (u := (Bo false)) (ev rfl)) rfl ?_
  refine wpList_nil (hK6 _ _ ?_)
  refine wp_seq_k fun K14 hK14 => ?_
  refine wp_region_lit ?_
  refine seqd rfl rfl (does_call (args := #[(Pt b7 0)]) cal53 (evs rfl) (c_spec_l05Is b7 0 [(Iv A_p.points), (Iv A_p.values), (.slice p3 A_p.steps.length q4)] A_p _ (Blk.cells hB9) ⟨(.slice p3 A_p.steps.length q4), rfl, (Sl.ext hs5 RStepT.mono X13)⟩)) ?_; rintro _ w16 ⟨E15, rfl⟩
  have X17 := Ext.gr X13 E15
  show wpList _ _ _ _ (fr [(.agg #[(Iv A_p.points), (Iv A_p.values), (.slice p3 A_p.steps.length q4)]), (Pt b7 0), (Bo false), (Bo (progOk A_p))]) _
  refine q_is (l' := [(.agg #[(Iv A_p.points), (Iv A_p.values), (.slice p3 A_p.steps.length q4)]), (Pt b7 0), (Bo (progOk A_p)), (Bo (progOk A_p))]) rfl rfl (does_assign (u := (Bo (progOk A_p))) (ev rfl)) rfl ?_
  refine wpList_nil (hK14 _ _ ?_)
  refine wp_ret ?_
  refine ret_val (v := (Bo (progOk A_p))) (res_T rfl (slot rfl)) X17 ?_
  exact rfl

/- impl.in -/
theorem c_impl_in (n : Int) (low : Int) (high : Int) (w : World) : Gives Try.prog 55 #[(Iv n), (Iv low), (Iv high)] w (fun v w' => v = (Bo (inI n low high))) := by
  refine enter [(Iv n), (Iv low), (Iv high), Ud, Ud, Ud, Ud, Ud, Ud, Ud, Ud, Ud, Ud, Ud, Ud] Try.func55 rfl Try.ntmps55 rfl ?_
  refine wp_seq_k fun K1 hK1 => ?_
  refine wp_region_lit ?_
  refine q_is (l' := [(Iv n), (Iv low), (Iv high), Ud, Ud, Ud, (Bo false), Ud, Ud, Ud, Ud, Ud, Ud, Ud, Ud]) rfl rfl (does_assign (u := (Bo false)) (ev rfl)) rfl ?_
  refine wpList_nil (hK1 _ _ ?_)
  refine wp_seq_k fun K2 hK2 => ?_
  obtain ⟨β1, hβ1⟩ : ∃ b : Bool, b = ((icmp .geq n low) && (icmp .leq n high)) := ⟨_, rfl⟩
  refine region_text (
    [Fact.pure [] (fun v => v = (Iv n)),
    Fact.pure [] (fun v => v = (Iv low)),
    Fact.pure [7, 8] (fun v => v = (Bo (icmp .geq n low))),
    Fact.pure [9] (fun v => v = (Bo (icmp .geq n low))),
    Fact.pure [10] (fun v => (icmp .geq n low) = true → v = (Iv n)),
    Fact.pure [10] (fun v => (icmp .geq n low) = true → v = (Iv high)),
    Fact.pure [11, 12, 10] (fun v => (icmp .geq n low) = true → v = (Bo (icmp .leq n high))),
    Fact.pure [10, 13] (fun v => v = (Bo β1))]) (by simp [Fact.pure, Fact.mem]) ?_
  refine RW_d (fun v3 => [(Iv n), (Iv low), (Iv high), Ud, Ud, Ud, (Bo false), v3, Ud, Ud, Ud, Ud, Ud, Ud, Ud]) rfl (fun _ => rfl) (fun u hu hF => ?_) (fun v3 => ?_)
  · clear hF
    refine doesG_un rfl ?_
    refine (does_move (u := (Iv n)) (ev rfl)).mono ?_; rintro _ _ ⟨rfl, rfl⟩
    exact ⟨rfl, Ext.refl _⟩
  refine RW_d (fun v4 => [(Iv n), (Iv low), (Iv high), Ud, Ud, Ud, (Bo false), v3, v4, Ud, Ud, Ud, Ud, Ud, Ud]) rfl (fun _ => rfl) (fun u hu hF => ?_) (fun v4 => ?_)
  · clear hF
    refine doesG_un rfl ?_
    refine (does_move (u := (Iv low)) (ev rfl)).mono ?_; rintro _ _ ⟨rfl, rfl⟩
    exact ⟨rfl, Ext.refl _⟩
  refine RW_d (fun v5 => [(Iv n), (Iv low), (Iv high), Ud, Ud, Ud, (Bo false), v3, v4, v5, Ud, Ud, Ud, Ud, Ud]) rfl (fun _ => rfl) (fun u hu hF => ?_) (fun v5 => ?_)
  · have h7_ : v3 = (Iv n) := hF.1
    have h8_ : v4 = (Iv low) := hF.2.1
    clear hF
    refine doesG_un rfl ?_
    obtain rfl := h7_
    obtain rfl := h8_
    refine (does_icmp (p := n) (q := low) (.inr (.inr (.inr (.inr (.inr rfl))))) (ev rfl) (ev rfl)).mono ?_; rintro _ _ ⟨rfl, rfl⟩
    exact ⟨rfl, Ext.refl _⟩
  refine RW_d (fun v6 => [(Iv n), (Iv low), (Iv high), Ud, Ud, Ud, (Bo false), v3, v4, v5, v6, Ud, Ud, Ud, Ud]) rfl (fun _ => rfl) (fun u hu hF => ?_) (fun v6 => ?_)
  · have h9_ : v5 = (Bo (icmp .geq n low)) := hF.1
    clear hF
    refine doesG_un rfl ?_
    obtain rfl := h9_
    refine (does_move (u := (Bo (icmp .geq n low))) (ev rfl)).mono ?_; rintro _ _ ⟨rfl, rfl⟩
    exact ⟨rfl, Ext.refl _⟩
  refine RW_d (fun v7 => [(Iv n), (Iv low), (Iv high), Ud, Ud, Ud, (Bo false), v3, v4, v5, v6, v7, Ud, Ud, Ud]) rfl (fun _ => rfl) (fun u hu hF => ?_) (fun v7 => ?_)
  · have h10_ : v6 = (Bo (icmp .geq n low)) := hF.1
    clear hF
    obtain rfl := h10_
    refine doesG_g (b := (icmp .geq n low)) rfl (yld rfl rfl) (fun hg1 => ?_) (fun hc => ⟨fun hg1 => absurd hg1 hc, Ext.refl _⟩)
    refine (does_move (u := (Iv n)) (ev rfl)).mono ?_; rintro _ _ ⟨rfl, rfl⟩
    exact ⟨fun _ => rfl, Ext.refl _⟩
  refine RW_d (fun v8 => [(Iv n), (Iv low), (Iv high), Ud, Ud, Ud, (Bo false), v3, v4, v5, v6, v7, v8, Ud, Ud]) rfl (fun _ => rfl) (fun u hu hF => ?_) (fun v8 => ?_)
  · have h10_ : v6 = (Bo (icmp .geq n low)) := hF.1
    clear hF
    obtain rfl := h10_
    refine doesG_g (b := (icmp .geq n low)) rfl (yld rfl rfl) (fun hg1 => ?_) (fun hc => ⟨fun hg1 => absurd hg1 hc, Ext.refl _⟩)
    refine (does_move (u := (Iv high)) (ev rfl)).mono ?_; rintro _ _ ⟨rfl, rfl⟩
    exact ⟨fun _ => rfl, Ext.refl _⟩
  refine RW_d (fun v9 => [(Iv n), (Iv low), (Iv high), Ud, Ud, Ud, (Bo false), v3, v4, v5, v6, v7, v8, v9, Ud]) rfl (fun _ => rfl) (fun u hu hF => ?_) (fun v9 => ?_)
  · have h11_ : (icmp .geq n low) = true → v7 = (Iv n) := hF.1
    have h12_ : (icmp .geq n low) = true → v8 = (Iv high) := hF.2.1
    have h10_ : v6 = (Bo (icmp .geq n low)) := hF.2.2.1
    clear hF
    obtain rfl := h10_
    refine doesG_g (b := (icmp .geq n low)) rfl (yld rfl rfl) (fun hg1 => ?_) (fun hc => ⟨fun hg1 => absurd hg1 hc, Ext.refl _⟩)
    obtain rfl := h11_ hg1
    obtain rfl := h12_ hg1
    refine (does_icmp (p := n) (q := high) (.inr (.inr (.inr (.inl rfl)))) (ev rfl) (ev rfl)).mono ?_; rintro _ _ ⟨rfl, rfl⟩
    exact ⟨fun _ => rfl, Ext.refl _⟩
  refine RW_d (fun v10 => [(Iv n), (Iv low), (Iv high), Ud, Ud, Ud, (Bo false), v3, v4, v5, v6, v7, v8, v9, v10]) rfl (fun _ => rfl) (fun u hu hF => ?_) (fun v10 => ?_)
  · have h10_ : v6 = (Bo (icmp .geq n low)) := hF.1
    have h13_ : (icmp .geq n low) = true → v9 = (Bo (icmp .leq n high)) := hF.2.1
    clear hF
    refine doesG_un rfl ?_
    skip
    obtain rfl := h10_
    refine (does_pick (b := (icmp .geq n low)) (ev rfl) (ev rfl) (ev rfl)).mono ?_; rintro _ _ ⟨rfl, rfl⟩; refine ⟨?_, Ext.refl _⟩; rw [hβ1]; skip
    cases hbb : (icmp .geq n low) <;> simp [hbb] at h13_ ⊢
    all_goals (first | rfl | (subst h13_; rfl) | simp_all)
  refine RW_fin ?_; intro w11 E12 hP13
  obtain ⟨⟨⟨⟨⟨⟨⟨⟨-, -⟩, -⟩, -⟩, -⟩, -⟩, -⟩, -⟩, q14⟩ := hP13
  have X15 := Ext.gr (Ext.refl w) E12
  have q14 : v10 = (Bo β1) := q14
  obtain rfl := q14
  show wpList _ _ _ _ (fr [(Iv n), (Iv low), (Iv high), Ud, Ud, Ud, (Bo false), v3, v4, v5, v6, v7, v8, v9, (Bo β1)]) _
  refine q_is (l' := [(Iv n), (Iv low), (Iv high), Ud, Ud, Ud, (Bo β1), v3, v4, v5, v6, v7, v8, v9, (Bo β1)]) rfl rfl (does_assign (u := (Bo β1)) (ev rfl)) rfl ?_
  refine wpList_nil (hK2 _ _ ?_)
  refine wp_ret ?_
  refine ret_val (v := (Bo β1)) (res_T rfl (slot rfl)) X15 ?_
  have x16 : (inI n low high) = β1 := by first | with_reducible rfl | (simp only [inI, hβ1]; done) | (simp [inI, hβ1]; done) | rfl
  exact (by first | rfl | rw [x16])

/- impl.registersOk -/
theorem c_impl_registersOk (kind : Int) (w : World) : Gives Try.prog 54 #[(Iv kind)] w (fun v w' => v = (Bo (inI kind 1 18))) := by
  refine enter [(Iv kind), Ud, Ud, Ud, Ud] Try.func54 rfl Try.ntmps54 rfl ?_
  refine wp_seq_k fun K1 hK1 => ?_
  refine wp_region_lit ?_
  refine q_is (l' := [(Iv kind), Ud, (Bo false), Ud, Ud]) rfl rfl (does_assign (u := (Bo false)) (ev rfl)) rfl ?_
  refine wpList_nil (hK1 _ _ ?_)
  refine wp_seq_k fun K2 hK2 => ?_
  refine wp_region_lit ?_
  refine q_is (l' := [(Iv kind), Ud, (Bo false), (Iv kind), Ud]) rfl rfl (does_move (u := (Iv kind)) (ev rfl)) rfl ?_
  refine seqd rfl rfl (does_call (args := #[(Iv kind), (Iv 1), (Iv 18)]) cal55 (evs rfl) (c_impl_in kind 1 18 _)) ?_; rintro _ w4 ⟨E3, rfl⟩
  have X5 := Ext.gr (Ext.refl w) E3
  show wpList _ _ _ _ (fr [(Iv kind), Ud, (Bo false), (Iv kind), (Bo (inI kind 1 18))]) _
  refine q_is (l' := [(Iv kind), Ud, (Bo (inI kind 1 18)), (Iv kind), (Bo (inI kind 1 18))]) rfl rfl (does_assign (u := (Bo (inI kind 1 18))) (ev rfl)) rfl ?_
  refine wpList_nil (hK2 _ _ ?_)
  refine wp_ret ?_
  refine ret_val (v := (Bo (inI kind 1 18))) (res_T rfl (slot rfl)) X5 ?_
  exact rfl

end Go.Proofs.Ytgmpdiehpimpnaa
