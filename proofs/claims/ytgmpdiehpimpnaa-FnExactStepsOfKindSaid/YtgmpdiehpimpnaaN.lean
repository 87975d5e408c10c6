/- contracts of functions, each walked once -/
import Derived.Test.YtgmpdiehpimpnaaTy
import Derived.Test.YtgmpdiehpimpnaaUni
import Derived.Test.YtgmpdiehpimpnaaOwn
import Derived.Test.YtgmpdiehpimpnaaNod
namespace Go.Proofs.Ytgmpdiehpimpnaa
open Go Go.RowKit
set_option maxRecDepth 100000
set_option maxHeartbeats 3200000
set_option linter.unusedVariables false
set_option linter.unusedSimpArgs false

/- laws.szFloat32S -/
theorem c_laws_szFloat32S (a : Value) (L_a : List Nat) (left : Int) (w : World) (hv_a : Sl RF 1 w a L_a) (hle : left ≤ 1048576) (hge : 0 ≤ left) : Gives Try.prog 40 #[a, (Iv left)] w (fun v w' => ∃ i_1 : Int, v = (Iv i_1) ∧ (i_1 < 0 ∨ ((L_a.length : Int) ≤ left ∧ i_1 = left - L_a.length ∧ 0 ≤ i_1))) := by
  have hlen_a := Sl.len hv_a; obtain ⟨p_a, q_a, rfl⟩ := Sl.shape hv_a
  refine enter [(.slice p_a L_a.length q_a), (Iv left), Ud, Ud, Ud, Ud, Ud, Ud, Ud, Ud, Ud, Ud] Try.func40 rfl Try.ntmps40 rfl ?_
  refine wp_seq_k fun K1 hK1 => ?_
  refine wp_region_lit ?_
  refine q_is (l' := [(.slice p_a L_a.length q_a), (Iv left), Ud, Ud, (Iv 0), Ud, Ud, Ud, Ud, Ud, Ud, Ud]) rfl rfl (does_assign (u := (Iv 0)) (ev rfl)) rfl ?_
  refine wpList_nil (hK1 _ _ ?_)
  refine wp_seq_k fun K2 hK2 => ?_
  refine wp_region_lit ?_
  refine q_is (l' := [(.slice p_a L_a.length q_a), (Iv left), Ud, Ud, (Iv 0), (Iv left), Ud, Ud, Ud, Ud, Ud, Ud]) rfl rfl (does_move (u := (Iv left)) (ev rfl)) rfl ?_
  refine q_is (l' := [(.slice p_a L_a.length q_a), (Iv left), Ud, Ud, (Iv 0), (Iv left), (.slice p_a L_a.length q_a), Ud, Ud, Ud, Ud, Ud]) rfl rfl (does_move (u := (.slice p_a L_a.length q_a)) (ev rfl)) rfl ?_
  refine q_is (l' := [(.slice p_a L_a.length q_a), (Iv left), Ud, Ud, (Iv 0), (Iv left), (.slice p_a L_a.length q_a), (Iv (L_a.length : Int)), Ud, Ud, Ud, Ud]) rfl rfl (does_len_slice Try.underlying22 (ev rfl)) rfl ?_
  refine q_is (l' := [(.slice p_a L_a.length q_a), (Iv left), Ud, Ud, (Iv 0), (Iv left), (.slice p_a L_a.length q_a), (Iv (L_a.length : Int)), (Iv (left - (L_a.length : Int))), Ud, Ud, Ud]) rfl rfl (does_iarith (p := left) (q := (L_a.length : Int)) (r := left - (L_a.length : Int)) (ev rfl) (ev rfl) (.inr (.inl ⟨rfl, (in_i64 (by omega) (by omega)).symm⟩))) rfl ?_
  refine q_is (l' := [(.slice p_a L_a.length q_a), (Iv (left - (L_a.length : Int))), Ud, Ud, (Iv 0), (Iv left), (.slice p_a L_a.length q_a), (Iv (L_a.length : Int)), (Iv (left - (L_a.length : Int))), Ud, Ud, Ud]) rfl rfl (does_assign (u := (Iv (left - (L_a.length : Int)))) (ev rfl)) rfl ?_
  refine wpList_nil (hK2 _ _ ?_)
  refine wp_seq_k fun K3 hK3 => ?_
  refine wp_seq_k fun K4 hK4 => ?_
  refine wp_region_lit ?_
  refine q_is (l' := [(.slice p_a L_a.length q_a), (Iv (left - (L_a.length : Int))), Ud, Ud, (Iv 0), (Iv left), (.slice p_a L_a.length q_a), (Iv (L_a.length : Int)), (Iv (left - (L_a.length : Int))), (Iv (left - (L_a.length : Int))), Ud, Ud]) rfl rfl (does_move (u := (Iv (left - (L_a.length : Int)))) (ev rfl)) rfl ?_
  refine q_is (l' := [(.slice p_a L_a.length q_a), (Iv (left - (L_a.length : Int))), Ud, Ud, (Iv 0), (Iv left), (.slice p_a L_a.length q_a), (Iv (L_a.length : Int)), (Iv (left - (L_a.length : Int))), (Iv (left - (L_a.length : Int))), (Bo (icmp .lss (left - (L_a.length : Int)) 0)), Ud]) rfl rfl (does_icmp (p := left - (L_a.length : Int)) (q := 0) (.inr (.inr (.inl rfl))) (ev rfl) (ev rfl)) rfl ?_
  refine wpList_nil (hK4 _ _ ?_)
  refine wp_cond_split (t := icmp .lss (left - (L_a.length : Int)) 0) (ev rfl) (fun c5 => ?_) (fun c5 => ?_)
  · have c5' := c5
    (try simp only [icmp, Bool.and_eq_true, Bool.or_eq_true, Bool.and_eq_false_iff, Bool.or_eq_false_iff, Bool.not_eq_true', Bool.not_eq_false', decide_eq_true_eq, decide_eq_false_iff_not, beq_iff_eq, bne_iff_ne, beq_eq_false_iff_ne, bne_eq_false_iff_eq] at c5')
    refine wp_seq_k fun K6 hK6 => ?_
    refine wp_region_lit ?_
    refine q_is (l' := [(.slice p_a L_a.length q_a), (Iv (left - (L_a.length : Int))), Ud, Ud, (Iv (-1)), (Iv left), (.slice p_a L_a.length q_a), (Iv (L_a.length : Int)), (Iv (left - (L_a.length : Int))), (Iv (left - (L_a.length : Int))), (Bo (icmp .lss (left - (L_a.length : Int)) 0)), Ud]) rfl rfl (does_assign (u := (Iv (-1))) (ev rfl)) rfl ?_
    refine wpList_nil (hK6 _ _ ?_)
    refine wp_ret ?_
    dsimp only [Exit.then, Exit.inBlock]
    refine ret_val (v := (Iv (-1))) (res_T rfl (slot rfl)) (Ext.refl w) ?_
    have x7 : (-1) < 0 ∨ ((L_a.length : Int) ≤ left ∧ (-1) = left - L_a.length ∧ 0 ≤ (-1)) := by omega
    exact ⟨(-1), rfl, x7⟩
  have c5' := c5
  (try simp only [icmp, Bool.and_eq_true, Bool.or_eq_true, Bool.and_eq_false_iff, Bool.or_eq_false_iff, Bool.not_eq_true', Bool.not_eq_false', decide_eq_true_eq, decide_eq_false_iff_not, beq_iff_eq, bne_iff_ne, beq_eq_false_iff_ne, bne_eq_false_iff_eq] at c5')
  refine wp_skip (hK3 _ _ ?_)
  refine wp_seq_k fun K8 hK8 => ?_
  refine wp_region_lit ?_
  refine q_is (l' := [(.slice p_a L_a.length q_a), (Iv (left - (L_a.length : Int))), Ud, Ud, (Iv 0), (Iv left), (.slice p_a L_a.length q_a), (Iv (L_a.length : Int)), (Iv (left - (L_a.length : Int))), (Iv (left - (L_a.length : Int))), (Bo (icmp .lss (left - (L_a.length : Int)) 0)), (Iv (left - (L_a.length : Int)))]) rfl rfl (does_move (u := (Iv (left - (L_a.length : Int)))) (ev rfl)) rfl ?_
  refine q_is (l' := [(.slice p_a L_a.length q_a), (Iv (left - (L_a.length : Int))), Ud, Ud, (Iv (left - (L_a.length : Int))), (Iv left), (.slice p_a L_a.length q_a), (Iv (L_a.length : Int)), (Iv (left - (L_a.length : Int))), (Iv (left - (L_a.length : Int))), (Bo (icmp .lss (left - (L_a.length : Int)) 0)), (Iv (left - (L_a.length : Int)))]) rfl rfl (does_assign (u := (Iv (left - (L_a.length : Int)))) (ev rfl)) rfl ?_
  refine wpList_nil (hK8 _ _ ?_)
  refine wp_ret ?_
  refine ret_val (v := (Iv (left - (L_a.length : Int)))) (res_T rfl (slot rfl)) (Ext.refl w) ?_
  have x9 : (left - (L_a.length : Int)) < 0 ∨ ((L_a.length : Int) ≤ left ∧ (left - (L_a.length : Int)) = left - L_a.length ∧ 0 ≤ (left - (L_a.length : Int))) := by omega
  exact ⟨(left - (L_a.length : Int)), rfl, x9⟩

/- laws.szNode -/
theorem c_laws_szNode (a : List Value) (A_a : NodeT) (left : Int) (w : World) (hv_a : RNodeT w A_a a) (hle : left ≤ 1048576) (hge : 0 ≤ left) : Gives Try.prog 10 #[(.agg a.toArray), (Iv left)] w (fun v w' => ∃ i_1 : Int, v = (Iv i_1) ∧ (i_1 < 0 ∨ ((A_a.nums.length : Int) ≤ left ∧ i_1 = left - A_a.nums.length ∧ 0 ≤ i_1))) := by
  obtain ⟨y1, rfl, h2⟩ := hv_a
  have hs5 := h2; have hs5l := Sl.len h2; obtain ⟨p3, q4, rfl⟩ := Sl.shape h2
  refine enter [(.agg #[(Iv A_a.kind), (Iv A_a.a), (Iv A_a.b), (.slice p3 A_a.nums.length q4)]), (Iv left), Ud, Ud, Ud, Ud, Ud, Ud, Ud, Ud, Ud, Ud] Try.func10 rfl Try.ntmps10 rfl ?_
  refine wp_seq_k fun K6 hK6 => ?_
  refine wp_region_lit ?_
  refine seqd rfl rfl (does_box (u := (.agg #[(Iv A_a.kind), (Iv A_a.a), (Iv A_a.b), (.slice p3 A_a.nums.length q4)])) (ev rfl)) ?_; rintro _ w11 ⟨b7, rfl, hb8, hB9, E10⟩
  have g12 : w.heap.size ≤ b7 := Nat.le_trans (Below.size (Ext.refl w)) hb8
  change Blk _ _ [(Iv A_a.kind), (Iv A_a.a), (Iv A_a.b), (.slice p3 A_a.nums.length q4)] at hB9
  have X13 := Ext.gr (Ext.refl w) E10
  show wpList _ _ _ _ (fr [(.agg #[(Iv A_a.kind), (Iv A_a.a), (Iv A_a.b), (.slice p3 A_a.nums.length q4)]), (Iv left), (Pt b7 0), Ud, Ud, Ud, Ud, Ud, Ud, Ud, Ud, Ud]) _
  refine q_is (l' := [(.agg #[(Iv A_a.kind), (Iv A_a.a), (Iv A_a.b), (.slice p3 A_a.nums.length q4)]), (Iv left), (Pt b7 0), Ud, (Iv 0), Ud, Ud, Ud, Ud, Ud, Ud, Ud]) rfl rfl (does_assign (u := (Iv 0)) (ev rfl)) rfl ?_
  refine wpList_nil (hK6 _ _ ?_)
  refine wp_seq_k fun K14 hK14 => ?_
  refine wp_region_lit ?_
  refine q_is (l' := [(.agg #[(Iv A_a.kind), (Iv A_a.a), (Iv A_a.b), (.slice p3 A_a.nums.length q4)]), (Iv left), (Pt b7 0), Ud, (Iv 0), (Pt b7 3), Ud, Ud, Ud, Ud, Ud, Ud]) rfl rfl (does_fieldAddr (ev rfl) fa24_3) rfl ?_
  refine q_is (l' := [(.agg #[(Iv A_a.kind), (Iv A_a.a), (Iv A_a.b), (.slice p3 A_a.nums.length q4)]), (Iv left), (Pt b7 0), Ud, (Iv 0), (Pt b7 3), (.slice p3 A_a.nums.length q4), Ud, Ud, Ud, Ud, Ud]) rfl rfl (does_load (u := (.slice p3 A_a.nums.length q4)) (ev rfl) Try.isAgg22 (Cells.at (Blk.cells hB9) 3 rfl)) rfl ?_
  refine q_is (l' := [(.agg #[(Iv A_a.kind), (Iv A_a.a), (Iv A_a.b), (.slice p3 A_a.nums.length q4)]), (Iv left), (Pt b7 0), Ud, (Iv 0), (Pt b7 3), (.slice p3 A_a.nums.length q4), (Iv left), Ud, Ud, Ud, Ud]) rfl rfl (does_move (u := (Iv left)) (ev rfl)) rfl ?_
  refine seqd rfl rfl (does_call (args := #[(.slice p3 A_a.nums.length q4), (Iv left)]) cal40 (evs rfl) (c_laws_szFloat32S (.slice p3 A_a.nums.length q4) A_a.nums left _ (Sl.ext hs5 RF.mono X13) (by omega) (by omega))) ?_; rintro _ w16 ⟨E15, ⟨i17, rfl, h18⟩⟩
  have X19 := Ext.gr X13 E15
  show wpList _ _ _ _ (fr [(.agg #[(Iv A_a.kind), (Iv A_a.a), (Iv A_a.b), (.slice p3 A_a.nums.length q4)]), (Iv left), (Pt b7 0), Ud, (Iv 0), (Pt b7 3), (.slice p3 A_a.nums.length q4), (Iv left), (Iv i17), Ud, Ud, Ud]) _
  refine q_is (l' := [(.agg #[(Iv A_a.kind), (Iv A_a.a), (Iv A_a.b), (.slice p3 A_a.nums.length q4)]), (Iv i17), (Pt b7 0), Ud, (Iv 0), (Pt b7 3), (.slice p3 A_a.nums.length q4), (Iv left), (Iv i17), Ud, Ud, Ud]) rfl rfl (does_assign (u := (Iv i17)) (ev rfl)) rfl ?_
  refine wpList_nil (hK14 _ _ ?_)
  refine wp_seq_k fun K20 hK20 => ?_
  refine wp_seq_k fun K21 hK21 => ?_
  refine wp_region_lit ?_
  refine q_is (l' := [(.agg #[(Iv A_a.kind), (Iv A_a.a), (Iv A_a.b), (.slice p3 A_a.nums.length q4)]), (Iv i17), (Pt b7 0), Ud, (Iv 0), (Pt b7 3), (.slice p3 A_a.nums.length q4), (Iv left), (Iv i17), (Iv i17), Ud, Ud]) rfl rfl (does_move (u := (Iv i17)) (ev rfl)) rfl ?_
  refine q_is (l' := [(.agg #[(Iv A_a.kind), (Iv A_a.a), (Iv A_a.b), (.slice p3 A_a.nums.length q4)]), (Iv i17), (Pt b7 0), Ud, (Iv 0), (Pt b7 3), (.slice p3 A_a.nums.length q4), (Iv left), (Iv i17), (Iv i17), (Bo (icmp .lss i17 0)), Ud]) rfl rfl (does_icmp (p := i17) (q := 0) (.inr (.inr (.inl rfl))) (ev rfl) (ev rfl)) rfl ?_
  refine wpList_nil (hK21 _ _ ?_)
  refine wp_cond_split (t := icmp .lss i17 0) (ev rfl) (fun c22 => ?_) (fun c22 => ?_)
  · have c22' := c22
    (try simp only [icmp, Bool.and_eq_true, Bool.or_eq_true, Bool.and_eq_false_iff, Bool.or_eq_false_iff, Bool.not_eq_true', Bool.not_eq_false', decide_eq_true_eq, decide_eq_false_iff_not, beq_iff_eq, bne_iff_ne, beq_eq_false_iff_ne, bne_eq_false_iff_eq] at c22')
    refine wp_seq_k fun K23 hK23 => ?_
    refine wp_region_lit ?_
    refine q_is (l' := [(.agg #[(Iv A_a.kind), (Iv A_a.a), (Iv A_a.b), (.slice p3 A_a.nums.length q4)]), (Iv i17), (Pt b7 0), Ud, (Iv (-1)), (Pt b7 3), (.slice p3 A_a.nums.length q4), (Iv left), (Iv i17), (Iv i17), (Bo (icmp .lss i17 0)), Ud]) rfl rfl (does_assign (u := (Iv (-1))) (ev rfl)) rfl ?_
    refine wpList_nil (hK23 _ _ ?_)
    refine wp_ret ?_
    dsimp only [Exit.then, Exit.inBlock]
    refine ret_val (v := (Iv (-1))) (res_T rfl (slot rfl)) X19 ?_
    have x24 : (-1) < 0 ∨ ((A_a.nums.length : Int) ≤ left ∧ (-1) = left - A_a.nums.length ∧ 0 ≤ (-1)) := by omega
    exact ⟨(-1), rfl, x24⟩
  have c22' := c22
  (try simp only [icmp, Bool.and_eq_true, Bool.or_eq_true, Bool.and_eq_false_iff, Bool.or_eq_false_iff, Bool.not_eq_true', Bool.not_eq_false', decide_eq_true_eq, decide_eq_false_iff_not, beq_iff_eq, bne_iff_ne, beq_eq_false_iff_ne, bne_eq_false_iff_eq] at c22')
  refine wp_skip (hK20 _ _ ?_)
  refine wp_seq_k fun K25 hK25 => ?_
  refine wp_region_lit ?_
  refine q_is (l' := [(.agg #[(Iv A_a.kind), (Iv A_a.a), (Iv A_a.b), (.slice p3 A_a.nums.length q4)]), (Iv i17), (Pt b7 0), Ud, (Iv 0), (Pt b7 3), (.slice p3 A_a.nums.length q4), (Iv left), (Iv i17), (Iv i17), (Bo (icmp .lss i17 0)), (Iv i17)]) rfl rfl (does_move (u := (Iv i17)) (ev rfl)) rfl ?_
  refine q_is (l' := [(.agg #[(Iv A_a.kind), (Iv A_a.a), (Iv A_a.b), (.slice p3 A_a.nums.length q4)]), (Iv i17), (Pt b7 0), Ud, (Iv i17), (Pt b7 3), (.slice p3 A_a.nums.length q4), (Iv left), (Iv i17), (Iv i17), (Bo (icmp .lss i17 0)), (Iv i17)]) rfl rfl (does_assign (u := (Iv i17)) (ev rfl)) rfl ?_
  refine wpList_nil (hK25 _ _ ?_)
  refine wp_ret ?_
  refine ret_val (v := (Iv i17)) (res_T rfl (slot rfl)) X19 ?_
  have x26 : i17 < 0 ∨ ((A_a.nums.length : Int) ≤ left ∧ i17 = left - A_a.nums.length ∧ 0 ≤ i17) := by omega
  exact ⟨i17, rfl, x26⟩

/- laws.szStep -/
theorem c_laws_szStep (a : List Value) (A_a : StepT) (left : Int) (w : World) (hv_a : RStepT w A_a a) (hle : left ≤ 1048576) (hge : 0 ≤ left) : Gives Try.prog 92 #[(.agg a.toArray), (Iv left)] w (fun v w' => ∃ i_1 : Int, v = (Iv i_1) ∧ (i_1 < 0 ∨ ((A_a.node.nums.length : Int) ≤ left ∧ i_1 = left - A_a.node.nums.length ∧ 0 ≤ i_1))) := by
  obtain ⟨y1, rfl, h2⟩ := hv_a
  have hs5 := h2; have hs5l := Sl.len h2; obtain ⟨p3, q4, rfl⟩ := Sl.shape h2
  refine enter [(.agg #[(Iv A_a.kind), (Iv A_a.to), (Iv A_a.a), (Iv A_a.b), (Iv A_a.node.kind), (Iv A_a.node.a), (Iv A_a.node.b), (.slice p3 A_a.node.nums.length q4)]), (Iv left), Ud, Ud, Ud, Ud, Ud, Ud, Ud, Ud, Ud, Ud] Try.func92 rfl Try.ntmps92 rfl ?_
  refine wp_seq_k fun K6 hK6 => ?_
  refine wp_region_lit ?_
  refine seqd rfl rfl (does_box (u := (.agg #[(Iv A_a.kind), (Iv A_a.to), (Iv A_a.a), (Iv A_a.b), (Iv A_a.node.kind), (Iv A_a.node.a), (Iv A_a.node.b), (.slice p3 A_a.node.nums.length q4)])) (ev rfl)) ?_; rintro _ w11 ⟨b7, rfl, hb8, hB9, E10⟩
  have g12 : w.heap.size ≤ b7 := Nat.le_trans (Below.size (Ext.refl w)) hb8
  change Blk _ _ [(Iv A_a.kind), (Iv A_a.to), (Iv A_a.a), (Iv A_a.b), (Iv A_a.node.kind), (Iv A_a.node.a), (Iv A_a.node.b), (.slice p3 A_a.node.nums.length q4)] at hB9
  have X13 := Ext.gr (Ext.refl w) E10
  show wpList _ _ _ _ (fr [(.agg #[(Iv A_a.kind), (Iv A_a.to), (Iv A_a.a), (Iv A_a.b), (Iv A_a.node.kind), (Iv A_a.node.a), (Iv A_a.node.b), (.slice p3 A_a.node.nums.length q4)]), (Iv left), (Pt b7 0), Ud, Ud, Ud, Ud, Ud, Ud, Ud, Ud, Ud]) _
  refine q_is (l' := [(.agg #[(Iv A_a.kind), (Iv A_a.to), (Iv A_a.a), (Iv A_a.b), (Iv A_a.node.kind), (Iv A_a.node.a), (Iv A_a.node.b), (.slice p3 A_a.node.nums.length q4)]), (Iv left), (Pt b7 0), Ud, (Iv 0), Ud, Ud, Ud, Ud, Ud, Ud, Ud]) rfl rfl (does_assign (u := (Iv 0)) (ev rfl)) rfl ?_
  refine wpList_nil (hK6 _ _ ?_)
  refine wp_seq_k fun K14 hK14 => ?_
  refine wp_region_lit ?_
  refine q_is (l' := [(.agg #[(Iv A_a.kind), (Iv A_a.to), (Iv A_a.a), (Iv A_a.b), (Iv A_a.node.kind), (Iv A_a.node.a), (Iv A_a.node.b), (.slice p3 A_a.node.nums.length q4)]), (Iv left), (Pt b7 0), Ud, (Iv 0), (Pt b7 4), Ud, Ud, Ud, Ud, Ud, Ud]) rfl rfl (does_fieldAddr (ev rfl) fa147_4) rfl ?_
  refine q_is (l' := [(.agg #[(Iv A_a.kind), (Iv A_a.to), (Iv A_a.a), (Iv A_a.b), (Iv A_a.node.kind), (Iv A_a.node.a), (Iv A_a.node.b), (.slice p3 A_a.node.nums.length q4)]), (Iv left), (Pt b7 0), Ud, (Iv 0), (Pt b7 4), (.agg #[(Iv A_a.node.kind), (Iv A_a.node.a), (Iv A_a.node.b), (.slice p3 A_a.node.nums.length q4)]), Ud, Ud, Ud, Ud, Ud]) rfl rfl (does_loadAgg (cs := [(Iv A_a.node.kind), (Iv A_a.node.a), (Iv A_a.node.b), (.slice p3 A_a.node.nums.length q4)]) (ev rfl) Try.isAgg24 Try.sizeOf24 (Cells.sub (Blk.cells hB9) 4 4) rfl) rfl ?_
  refine q_is (l' := [(.agg #[(Iv A_a.kind), (Iv A_a.to), (Iv A_a.a), (Iv A_a.b), (Iv A_a.node.kind), (Iv A_a.node.a), (Iv A_a.node.b), (.slice p3 A_a.node.nums.length q4)]), (Iv left), (Pt b7 0), Ud, (Iv 0), (Pt b7 4), (.agg #[(Iv A_a.node.kind), (Iv A_a.node.a), (Iv A_a.node.b), (.slice p3 A_a.node.nums.length q4)]), (Iv left), Ud, Ud, Ud, Ud]) rfl rfl (does_move (u := (Iv left)) (ev rfl)) rfl ?_
  refine seqd rfl rfl (does_call (args := #[(.agg #[(Iv A_a.node.kind), (Iv A_a.node.a), (Iv A_a.node.b), (.slice p3 A_a.node.nums.length q4)]), (Iv left)]) cal10 (evs rfl) (c_laws_szNode [(Iv A_a.node.kind), (Iv A_a.node.a), (Iv A_a.node.b), (.slice p3 A_a.node.nums.length q4)] A_a.node left _ ⟨(.slice p3 A_a.node.nums.length q4), rfl, (Sl.ext hs5 RF.mono X13)⟩ (by omega) (by omega))) ?_; rintro _ w16 ⟨E15, ⟨i17, rfl, h18⟩⟩
  have X19 := Ext.gr X13 E15
  show wpList _ _ _ _ (fr [(.agg #[(Iv A_a.kind), (Iv A_a.to), (Iv A_a.a), (Iv A_a.b), (Iv A_a.node.kind), (Iv A_a.node.a), (Iv A_a.node.b), (.slice p3 A_a.node.nums.length q4)]), (Iv left), (Pt b7 0), Ud, (Iv 0), (Pt b7 4), (.agg #[(Iv A_a.node.kind), (Iv A_a.node.a), (Iv A_a.node.b), (.slice p3 A_a.node.nums.length q4)]), (Iv left), (Iv i17), Ud, Ud, Ud]) _
  refine q_is (l' := [(.agg #[(Iv A_a.kind), (Iv A_a.to), (Iv A_a.a), (Iv A_a.b), (Iv A_a.node.kind), (Iv A_a.node.a), (Iv A_a.node.b), (.slice p3 A_a.node.nums.length q4)]), (Iv i17), (Pt b7 0), Ud, (Iv 0), (Pt b7 4), (.agg #[(Iv A_a.node.kind), (Iv A_a.node.a), (Iv A_a.node.b), (.slice p3 A_a.node.nums.length q4)]), (Iv left), (Iv i17), Ud, Ud, Ud]) rfl rfl (does_assign (u := (Iv i17)) (ev rfl)) rfl ?_
  refine wpList_nil (hK14 _ _ ?_)
  refine wp_seq_k fun K20 hK20 => ?_
  refine wp_seq_k fun K21 hK21 => ?_
  refine wp_region_lit ?_
  refine q_is (l' := [(.agg #[(Iv A_a.kind), (Iv A_a.to), (Iv A_a.a), (Iv A_a.b), (Iv A_a.node.kind), (Iv A_a.node.a), (Iv A_a.node.b), (.slice p3 A_a.node.nums.length q4)]), (Iv i17), (Pt b7 0), Ud, (Iv 0), (Pt b7 4), (.agg #[(Iv A_a.node.kind), (Iv A_a.node.a), (Iv A_a.node.b), (.slice p3 A_a.node.nums.length q4)]), (Iv left), (Iv i17), (Iv i17), Ud, Ud]) rfl rfl (does_move (u := (Iv i17)) (ev rfl)) rfl ?_
  refine q_is (l' := [(.agg #[(Iv A_a.kind), (Iv A_a.to), (Iv A_a.a), (Iv A_a.b), (Iv A_a.node.kind), (Iv A_a.node.a), (Iv A_a.node.b), (.slice p3 A_a.node.nums.length q4)]), (Iv i17), (Pt b7 0), Ud, (Iv 0), (Pt b7 4), (.agg #[(Iv A_a.node.kind), (Iv A_a.node.a), (Iv A_a.node.b), (.slice p3 A_a.node.nums.length q4)]), (Iv left), (Iv i17), (Iv i17), (Bo (icmp .lss i17 0)), Ud]) rfl rfl (does_icmp (p := i17) (q := 0) (.inr (.inr (.inl rfl))) (ev rfl) (ev rfl)) rfl ?_
  refine wpList_nil (hK21 _ _ ?_)
  refine wp_cond_split (t := icmp .lss i17 0) (ev rfl) (fun c22 => ?_) (fun c22 => ?_)
  · have c22' := c22
    (try simp only [icmp, Bool.and_eq_true, Bool.or_eq_true, Bool.and_eq_false_iff, Bool.or_eq_false_iff, Bool.not_eq_true', Bool.not_eq_false', decide_eq_true_eq, decide_eq_false_iff_not, beq_iff_eq, bne_iff_ne, beq_eq_false_iff_ne, bne_eq_false_iff_eq] at c22')
    refine wp_seq_k fun K23 hK23 => ?_
    refine wp_region_lit ?_
    refine q_is (l' := [(.agg #[(Iv A_a.kind), (Iv A_a.to), (Iv A_a.a), (Iv A_a.b), (Iv A_a.node.kind), (Iv A_a.node.a), (Iv A_a.node.b), (.slice p3 A_a.node.nums.length q4)]), (Iv i17), (Pt b7 0), Ud, (Iv (-1)), (Pt b7 4), (.agg #[(Iv A_a.node.kind), (Iv A_a.node.a), (Iv A_a.node.b), (.slice p3 A_a.node.nums.length q4)]), (Iv left), (Iv i17), (Iv i17), (Bo (icmp .lss i17 0)), Ud]) rfl rfl (does_assign (u := (Iv (-1))) (ev rfl)) rfl ?_
    refine wpList_nil (hK23 _ _ ?_)
    refine wp_ret ?_
    dsimp only [Exit.then, Exit.inBlock]
    refine ret_val (v := (Iv (-1))) (res_T rfl (slot rfl)) X19 ?_
    have x24 : (-1) < 0 ∨ ((A_a.node.nums.length : Int) ≤ left ∧ (-1) = left - A_a.node.nums.length ∧ 0 ≤ (-1)) := by omega
    exact ⟨(-1), rfl, x24⟩
  have c22' := c22
  (try simp only [icmp, Bool.and_eq_true, Bool.or_eq_true, Bool.and_eq_false_iff, Bool.or_eq_false_iff, Bool.not_eq_true', Bool.not_eq_false', decide_eq_true_eq, decide_eq_false_iff_not, beq_iff_eq, bne_iff_ne, beq_eq_false_iff_ne, bne_eq_false_iff_eq] at c22')
  refine wp_skip (hK20 _ _ ?_)
  refine wp_seq_k fun K25 hK25 => ?_
  refine wp_region_lit ?_
  refine q_is (l' := [(.agg #[(Iv A_a.kind), (Iv A_a.to), (Iv A_a.a), (Iv A_a.b), (Iv A_a.node.kind), (Iv A_a.node.a), (Iv A_a.node.b), (.slice p3 A_a.node.nums.length q4)]), (Iv i17), (Pt b7 0), Ud, (Iv 0), (Pt b7 4), (.agg #[(Iv A_a.node.kind), (Iv A_a.node.a), (Iv A_a.node.b), (.slice p3 A_a.node.nums.length q4)]), (Iv left), (Iv i17), (Iv i17), (Bo (icmp .lss i17 0)), (Iv i17)]) rfl rfl (does_move (u := (Iv i17)) (ev rfl)) rfl ?_
  refine q_is (l' := [(.agg #[(Iv A_a.kind), (Iv A_a.to), (Iv A_a.a), (Iv A_a.b), (Iv A_a.node.kind), (Iv A_a.node.a), (Iv A_a.node.b), (.slice p3 A_a.node.nums.length q4)]), (Iv i17), (Pt b7 0), Ud, (Iv i17), (Pt b7 4), (.agg #[(Iv A_a.node.kind), (Iv A_a.node.a), (Iv A_a.node.b), (.slice p3 A_a.node.nums.length q4)]), (Iv left), (Iv i17), (Iv i17), (Bo (icmp .lss i17 0)), (Iv i17)]) rfl rfl (does_assign (u := (Iv i17)) (ev rfl)) rfl ?_
  refine wpList_nil (hK25 _ _ ?_)
  refine wp_ret ?_
  refine ret_val (v := (Iv i17)) (res_T rfl (slot rfl)) X19 ?_
  have x26 : i17 < 0 ∨ ((A_a.node.nums.length : Int) ≤ left ∧ i17 = left - A_a.node.nums.length ∧ 0 ≤ i17) := by omega
  exact ⟨i17, rfl, x26⟩

/- laws.szStepS -/
theorem c_laws_szStepS (a : Value) (L_a : List StepT) (left : Int) (w : World) (hv_a : Sl RStepT 8 w a L_a) (hle : left ≤ 1048576) (hge : 0 ≤ left) : Gives Try.prog 47 #[a, (Iv left)] w (fun v w' => ∃ i_1 : Int, v = (Iv i_1) ∧ (i_1 < 0 ∨ ((stTot L_a : Int) ≤ left ∧ i_1 = left - stTot L_a ∧ 0 ≤ i_1))) := by
  have hlen_a := Sl.len hv_a; obtain ⟨p_a, q_a, rfl⟩ := Sl.shape hv_a
  refine enter [(.slice p_a L_a.length q_a), (Iv left), Ud, Ud, Ud, Ud, Ud, Ud, Ud, Ud, Ud, Ud, Ud, Ud, Ud, Ud, Ud, Ud, Ud, Ud, Ud, Ud, Ud, Ud, Ud, Ud, Ud] Try.func47 rfl Try.ntmps47 rfl ?_
  refine wp_seq_k fun K1 hK1 => ?_
  refine wp_region_lit ?_
  refine q_is rfl rfl (does_assign (u := (Iv 0)) (ev rfl)) (by dsimp only [List.set]; try rfl) ?_
  refine wpList_nil (hK1 _ _ ?_)
  refine wp_seq_k fun K2 hK2 => ?_
  refine wp_region_lit ?_
  refine q_is rfl rfl (does_move (u := (Iv left)) (ev rfl)) (by dsimp only [List.set]; try rfl) ?_
  refine q_is rfl rfl (does_move (u := (.slice p_a L_a.length q_a)) (ev rfl)) (by dsimp only [List.set]; try rfl) ?_
  refine q_is rfl rfl (does_len_slice Try.underlying31 (ev rfl)) (by dsimp only [List.set]; try rfl) ?_
  refine q_is rfl rfl (does_iarith (p := left) (q := (L_a.length : Int)) (r := left - (L_a.length : Int)) (ev rfl) (ev rfl) (.inr (.inl ⟨rfl, (in_i64 (by omega) (by omega)).symm⟩))) (by dsimp only [List.set]; try rfl) ?_
  refine q_is rfl rfl (does_assign (u := (Iv (left - (L_a.length : Int)))) (ev rfl)) (by dsimp only [List.set]; try rfl) ?_
  refine wpList_nil (hK2 _ _ ?_)
  refine wp_seq_k fun K3 hK3 => ?_
  refine wp_seq_k fun K4 hK4 => ?_
  refine wp_region_lit ?_
  refine q_is rfl rfl (does_move (u := (Iv (left - (L_a.length : Int)))) (ev rfl)) (by dsimp only [List.set]; try rfl) ?_
  refine q_is rfl rfl (does_icmp (p := left - (L_a.length : Int)) (q := 0) (.inr (.inr (.inl rfl))) (ev rfl) (ev rfl)) (by dsimp only [List.set]; try rfl) ?_
  refine wpList_nil (hK4 _ _ ?_)
  refine wp_cond_split (t := icmp .lss (left - (L_a.length : Int)) 0) (ev rfl) (fun c5 => ?_) (fun c5 => ?_)
  · have c5' := c5
    (try simp only [icmp, Bool.and_eq_true, Bool.or_eq_true, Bool.and_eq_false_iff, Bool.or_eq_false_iff, Bool.not_eq_true', Bool.not_eq_false', decide_eq_true_eq, decide_eq_false_iff_not, beq_iff_eq, bne_iff_ne, beq_eq_false_iff_ne, bne_eq_false_iff_eq] at c5')
    refine wp_seq_k fun K6 hK6 => ?_
    refine wp_region_lit ?_
    refine q_is rfl rfl (does_assign (u := (Iv (-1))) (ev rfl)) (by dsimp only [List.set]; try rfl) ?_
    refine wpList_nil (hK6 _ _ ?_)
    refine wp_ret ?_
    dsimp only [Exit.then, Exit.inBlock]
    refine ret_val (v := (Iv (-1))) (res_T rfl (slot rfl)) (Ext.refl w) ?_
    have x7 : (-1) < 0 ∨ ((stTot L_a : Int) ≤ left ∧ (-1) = left - stTot L_a ∧ 0 ≤ (-1)) := by first | omega | (have hle : s.1 = L_a.length := (by omega); rw [hle] at hn; right; unfold stTot; omega)
    exact ⟨(-1), rfl, x7⟩
  have c5' := c5
  (try simp only [icmp, Bool.and_eq_true, Bool.or_eq_true, Bool.and_eq_false_iff, Bool.or_eq_false_iff, Bool.not_eq_true', Bool.not_eq_false', decide_eq_true_eq, decide_eq_false_iff_not, beq_iff_eq, bne_iff_ne, beq_eq_false_iff_ne, bne_eq_false_iff_eq] at c5')
  refine wp_skip (hK3 _ _ ?_)
  refine wp_seq_k fun K8 hK8 => ?_
  refine wp_seq_k fun K9 hK9 => ?_
  refine wp_region_lit ?_
  refine q_is rfl rfl (does_assign (u := (Iv 0)) (ev rfl)) (by dsimp only [List.set]; try rfl) ?_
  refine wpList_nil (hK9 _ _ ?_)
  refine wp_block ?_
  refine loop_ghost (σ := Nat × Int) (fun s a w' => ∃ u10 : Nat → Value, a = fr [(.slice p_a L_a.length q_a), (Iv s.2), Ud, Ud, (u10 4), (Iv (s.1 : Int)), (Iv left), (.slice p_a L_a.length q_a), (Iv (L_a.length : Int)), (Iv (left - (L_a.length : Int))), (Iv (left - (L_a.length : Int))), (Bo (icmp .lss (left - (L_a.length : Int)) 0)), (u10 12), (u10 13), (u10 14), (u10 15), (u10 16), (u10 17), (u10 18), (u10 19), (u10 20), (u10 21), (u10 22), (u10 23), (u10 24), (u10 25), Ud] ∧ Ext w w' ∧ (s.1 ≤ L_a.length ∧ s.2 = left - L_a.length - (stSum L_a s.1 : Nat) ∧ 0 ≤ s.2)) (fun s => L_a.length - s.1) (0, left - L_a.length) ?_ ?_
  · refine ⟨fun t => (([(.slice p_a L_a.length q_a), (Iv (left - (L_a.length : Int))), Ud, Ud, (Iv 0), (Iv 0), (Iv left), (.slice p_a L_a.length q_a), (Iv (L_a.length : Int)), (Iv (left - (L_a.length : Int))), (Iv (left - (L_a.length : Int))), (Bo (icmp .lss (left - (L_a.length : Int)) 0)), Ud, Ud, Ud, Ud, Ud, Ud, Ud, Ud, Ud, Ud, Ud, Ud, Ud, Ud, Ud] : List Value)[t]?).getD undef, rfl, Ext.refl _, ?_⟩
    exact ⟨Nat.zero_le _, by simp [stSum], by omega⟩
  · rintro s a w11 ⟨u10, rfl, E12, ⟨hk, hn, h0⟩⟩
    have X14 := Ext.gr (Ext.refl w) E12
    refine wp_seq_k fun K15 hK15 => ?_
    refine wp_seq_k fun K16 hK16 => ?_
    refine wp_region_lit ?_
    refine q_is rfl rfl (does_move (u := (Iv (s.1 : Int))) (ev rfl)) (by dsimp only [List.set]; try rfl) ?_
    refine q_is rfl rfl (does_move (u := (.slice p_a L_a.length q_a)) (ev rfl)) (by dsimp only [List.set]; try rfl) ?_
    refine q_is rfl rfl (does_len_slice Try.underlying31 (ev rfl)) (by dsimp only [List.set]; try rfl) ?_
    refine q_is rfl rfl (does_icmp (p := (s.1 : Int)) (q := (L_a.length : Int)) (.inr (.inr (.inl rfl))) (ev rfl) (ev rfl)) (by dsimp only [List.set]; try rfl) ?_
    refine wpList_nil (hK16 _ _ ?_)
    refine wp_cond_split (t := icmp .lss (s.1 : Int) (L_a.length : Int)) (ev rfl) (fun c17 => ?_) (fun c17 => ?_)
    · have c17' := c17
      (try simp only [icmp, Bool.and_eq_true, Bool.or_eq_true, Bool.and_eq_false_iff, Bool.or_eq_false_iff, Bool.not_eq_true', Bool.not_eq_false', decide_eq_true_eq, decide_eq_false_iff_not, beq_iff_eq, bne_iff_ne, beq_eq_false_iff_ne, bne_eq_false_iff_eq] at c17')
      refine wp_skip (hK15 _ _ ?_)
      refine wp_seq_k fun K18 hK18 => ?_
      refine wp_block ?_
      refine wp_seq_k fun K19 hK19 => ?_
      refine wp_region_lit ?_
      refine q_is rfl rfl (does_move (u := (.slice p_a L_a.length q_a)) (ev rfl)) (by dsimp only [List.set]; try rfl) ?_
      refine q_is rfl rfl (does_move (u := (Iv (s.1 : Int))) (ev rfl)) (by dsimp only [List.set]; try rfl) ?_
      obtain ⟨el1, hel1⟩ : ∃ e, L_a[s.1]? = some e := ⟨_, List.getElem?_eq_getElem (by omega)⟩
      refine seqd rfl rfl (does_indexSl (R := RStepT) (i := (s.1 : Int)) (xs := L_a) (e := el1) Try.underlying31 Try.sizeOf147 (ev rfl) (ev rfl) (Sl.ext hv_a RStepT.mono X14) (by omega) hel1) ?_; rintro _ w11 ⟨b20, o21, _, rfl, hc23, ⟨y24, rfl, h25⟩, rfl⟩
      have hs28 := h25; have hs28l := Sl.len h25; obtain ⟨p26, q27, rfl⟩ := Sl.shape h25
      show wpList _ _ _ _ (fr [(.slice p_a L_a.length q_a), (Iv s.2), Ud, Ud, (u10 4), (Iv (s.1 : Int)), (Iv left), (.slice p_a L_a.length q_a), (Iv (L_a.length : Int)), (Iv (left - (L_a.length : Int))), (Iv (left - (L_a.length : Int))), (Bo (icmp .lss (left - (L_a.length : Int)) 0)), (Iv (s.1 : Int)), (.slice p_a L_a.length q_a), (Iv (L_a.length : Int)), (Bo (icmp .lss (s.1 : Int) (L_a.length : Int))), (u10 16), (u10 17), (.slice p_a L_a.length q_a), (Iv (s.1 : Int)), (Pt b20 o21), (u10 21), (u10 22), (u10 23), (u10 24), (u10 25), Ud]) _
      refine q_is rfl rfl (does_loadAgg (cs := [(Iv el1.kind), (Iv el1.to), (Iv el1.a), (Iv el1.b), (Iv el1.node.kind), (Iv el1.node.a), (Iv el1.node.b), (.slice p26 el1.node.nums.length q27)]) (ev rfl) Try.isAgg147 Try.sizeOf147 hc23 rfl) (by dsimp only [List.set]; try rfl) ?_
      refine q_is rfl rfl (does_move (u := (Iv s.2)) (ev rfl)) (by dsimp only [List.set]; try rfl) ?_
      refine seqd rfl rfl (does_call (args := #[(.agg #[(Iv el1.kind), (Iv el1.to), (Iv el1.a), (Iv el1.b), (Iv el1.node.kind), (Iv el1.node.a), (Iv el1.node.b), (.slice p26 el1.node.nums.length q27)]), (Iv s.2)]) cal92 (evs rfl) (c_laws_szStep [(Iv el1.kind), (Iv el1.to), (Iv el1.a), (Iv el1.b), (Iv el1.node.kind), (Iv el1.node.a), (Iv el1.node.b), (.slice p26 el1.node.nums.length q27)] el1 s.2 _ ⟨(.slice p26 el1.node.nums.length q27), rfl, hs28⟩ (by omega) (by omega))) ?_; rintro _ w30 ⟨E29, ⟨i31, rfl, h32⟩⟩
      have X33 := Ext.gr X14 E29
      show wpList _ _ _ _ (fr [(.slice p_a L_a.length q_a), (Iv s.2), Ud, Ud, (u10 4), (Iv (s.1 : Int)), (Iv left), (.slice p_a L_a.length q_a), (Iv (L_a.length : Int)), (Iv (left - (L_a.length : Int))), (Iv (left - (L_a.length : Int))), (Bo (icmp .lss (left - (L_a.length : Int)) 0)), (Iv (s.1 : Int)), (.slice p_a L_a.length q_a), (Iv (L_a.length : Int)), (Bo (icmp .lss (s.1 : Int) (L_a.length : Int))), (u10 16), (u10 17), (.slice p_a L_a.length q_a), (Iv (s.1 : Int)), (Pt b20 o21), (.agg #[(Iv el1.kind), (Iv el1.to), (Iv el1.a), (Iv el1.b), (Iv el1.node.kind), (Iv el1.node.a), (Iv el1.node.b), (.slice p26 el1.node.nums.length q27)]), (Iv s.2), (Iv i31), (u10 24), (u10 25), Ud]) _
      refine q_is rfl rfl (does_assign (u := (Iv i31)) (ev rfl)) (by dsimp only [List.set]; try rfl) ?_
      refine wpList_nil (hK19 _ _ ?_)
      refine wp_seq_k fun K34 hK34 => ?_
      refine wp_region_lit ?_
      refine q_is rfl rfl (does_move (u := (Iv i31)) (ev rfl)) (by dsimp only [List.set]; try rfl) ?_
      refine q_is rfl rfl (does_icmp (p := i31) (q := 0) (.inr (.inr (.inl rfl))) (ev rfl) (ev rfl)) (by dsimp only [List.set]; try rfl) ?_
      refine wpList_nil (hK34 _ _ ?_)
      refine wp_cond_split (t := icmp .lss i31 0) (ev rfl) (fun c35 => ?_) (fun c35 => ?_)
      · have c35' := c35
        (try simp only [icmp, Bool.and_eq_true, Bool.or_eq_true, Bool.and_eq_false_iff, Bool.or_eq_false_iff, Bool.not_eq_true', Bool.not_eq_false', decide_eq_true_eq, decide_eq_false_iff_not, beq_iff_eq, bne_iff_ne, beq_eq_false_iff_ne, bne_eq_false_iff_eq] at c35')
        refine wp_seq_k fun K36 hK36 => ?_
        refine wp_region_lit ?_
        refine q_is rfl rfl (does_assign (u := (Iv (-1))) (ev rfl)) (by dsimp only [List.set]; try rfl) ?_
        refine wpList_nil (hK36 _ _ ?_)
        refine wp_ret ?_
        dsimp only [Exit.then, Exit.inBlock]
        refine ret_val (v := (Iv (-1))) (res_T rfl (slot rfl)) X33 ?_
        try simp only [hel1] at c5 c17 c35
        have x37 : (-1) < 0 ∨ ((stTot L_a : Int) ≤ left ∧ (-1) = left - stTot L_a ∧ 0 ≤ (-1)) := by first | omega | (have hle : s.1 = L_a.length := (by omega); rw [hle] at hn; right; unfold stTot; omega)
        exact ⟨(-1), rfl, x37⟩
      have c35' := c35
      (try simp only [icmp, Bool.and_eq_true, Bool.or_eq_true, Bool.and_eq_false_iff, Bool.or_eq_false_iff, Bool.not_eq_true', Bool.not_eq_false', decide_eq_true_eq, decide_eq_false_iff_not, beq_iff_eq, bne_iff_ne, beq_eq_false_iff_ne, bne_eq_false_iff_eq] at c35')
      refine wp_skip (hK18 _ _ ?_)
      refine wp_region_lit ?_
      refine q_is rfl rfl (does_move (u := (Iv (s.1 : Int))) (ev rfl)) (by dsimp only [List.set]; try rfl) ?_
      refine q_is rfl rfl (does_iarith (p := (s.1 : Int)) (q := 1) (r := (s.1 : Int) + 1) (ev rfl) (ev rfl) (.inl ⟨rfl, (in_i64 (by omega) (by omega)).symm⟩)) (by dsimp only [List.set]; try rfl) ?_
      refine q_is rfl rfl (does_assign (u := (Iv ((s.1 : Int) + 1))) (ev rfl)) (by dsimp only [List.set]; try rfl) ?_
      refine wpList_nil ?_
      refine ⟨(s.1 + 1, i31), ⟨fun t => (([(.slice p_a L_a.length q_a), (Iv i31), Ud, Ud, (u10 4), (Iv ((s.1 : Int) + 1)), (Iv left), (.slice p_a L_a.length q_a), (Iv (L_a.length : Int)), (Iv (left - (L_a.length : Int))), (Iv (left - (L_a.length : Int))), (Bo (icmp .lss (left - (L_a.length : Int)) 0)), (Iv (s.1 : Int)), (.slice p_a L_a.length q_a), (Iv (L_a.length : Int)), (Bo (icmp .lss (s.1 : Int) (L_a.length : Int))), (Iv (s.1 : Int)), (Iv ((s.1 : Int) + 1)), (.slice p_a L_a.length q_a), (Iv (s.1 : Int)), (Pt b20 o21), (.agg #[(Iv el1.kind), (Iv el1.to), (Iv el1.a), (Iv el1.b), (Iv el1.node.kind), (Iv el1.node.a), (Iv el1.node.b), (.slice p26 el1.node.nums.length q27)]), (Iv s.2), (Iv i31), (Iv i31), (Bo (icmp .lss i31 0)), Ud] : List Value)[t]?).getD undef, ?_, (Ext.gr E12 E29), ?_⟩, ?_⟩
      · first | rfl | (simp only [Nat.cast_add, Nat.cast_one, Int.natCast_add, Int.natCast_one]; rfl)
      · (try dsimp only); have hss := stSum_succ (by assumption : L_a[s.1]? = some _); refine ⟨by omega, ?_, ?_⟩ <;> (try dsimp only) <;> omega
      · (try dsimp only); omega
    have c17' := c17
    (try simp only [icmp, Bool.and_eq_true, Bool.or_eq_true, Bool.and_eq_false_iff, Bool.or_eq_false_iff, Bool.not_eq_true', Bool.not_eq_false', decide_eq_true_eq, decide_eq_false_iff_not, beq_iff_eq, bne_iff_ne, beq_eq_false_iff_ne, bne_eq_false_iff_eq] at c17')
    refine wp_exit ?_
    refine hK8 _ _ ?_
    refine wp_seq_k fun K38 hK38 => ?_
    refine wp_region_lit ?_
    refine q_is rfl rfl (does_move (u := (Iv s.2)) (ev rfl)) (by dsimp only [List.set]; try rfl) ?_
    refine q_is rfl rfl (does_assign (u := (Iv s.2)) (ev rfl)) (by dsimp only [List.set]; try rfl) ?_
    refine wpList_nil (hK38 _ _ ?_)
    refine wp_ret ?_
    refine ret_val (v := (Iv s.2)) (res_T rfl (slot rfl)) X14 ?_
    have x39 : s.2 < 0 ∨ ((stTot L_a : Int) ≤ left ∧ s.2 = left - stTot L_a ∧ 0 ≤ s.2) := by first | omega | (have hle : s.1 = L_a.length := (by omega); rw [hle] at hn; right; unfold stTot; omega)
    exact ⟨s.2, rfl, x39⟩

/- laws.szProgram -/
theorem c_laws_szProgram (a : List Value) (A_a : ProgT) (left : Int) (w : World) (hv_a : RProgT w A_a a) (hle : left ≤ 1048576) (hge : 0 ≤ left) : Gives Try.prog 15 #[(.agg a.toArray), (Iv left)] w (fun v w' => ∃ i_1 : Int, v = (Iv i_1) ∧ (i_1 < 0 ∨ ((stTot A_a.steps : Int) ≤ left ∧ i_1 = left - stTot A_a.steps ∧ 0 ≤ i_1))) := by
  obtain ⟨y1, rfl, h2⟩ := hv_a
  have hs5 := h2; have hs5l := Sl.len h2; obtain ⟨p3, q4, rfl⟩ := Sl.shape h2
  refine enter [(.agg #[(Iv A_a.points), (Iv A_a.values), (.slice p3 A_a.steps.length q4)]), (Iv left), Ud, Ud, Ud, Ud, Ud, Ud, Ud, Ud, Ud, Ud] Try.func15 rfl Try.ntmps15 rfl ?_
  refine wp_seq_k fun K6 hK6 => ?_
  refine wp_region_lit ?_
  refine seqd rfl rfl (does_box (u := (.agg #[(Iv A_a.points), (Iv A_a.values), (.slice p3 A_a.steps.length q4)])) (ev rfl)) ?_; rintro _ w11 ⟨b7, rfl, hb8, hB9, E10⟩
  have g12 : w.heap.size ≤ b7 := Nat.le_trans (Below.size (Ext.refl w)) hb8
  change Blk _ _ [(Iv A_a.points), (Iv A_a.values), (.slice p3 A_a.steps.length q4)] at hB9
  have X13 := Ext.gr (Ext.refl w) E10
  show wpList _ _ _ _ (fr [(.agg #[(Iv A_a.points), (Iv A_a.values), (.slice p3 A_a.steps.length q4)]), (Iv left), (Pt b7 0), Ud, Ud, Ud, Ud, Ud, Ud, Ud, Ud, Ud]) _
  refine q_is (l' := [(.agg #[(Iv A_a.points), (Iv A_a.values), (.slice p3 A_a.steps.length q4)]), (Iv left), (Pt b7 0), Ud, (Iv 0), Ud, Ud, Ud, Ud, Ud, Ud, Ud]) rfl rfl (does_assign (u := (Iv 0)) (ev rfl)) rfl ?_
  refine wpList_nil (hK6 _ _ ?_)
  refine wp_seq_k fun K14 hK14 => ?_
  refine wp_region_lit ?_
  refine q_is (l' := [(.agg #[(Iv A_a.points), (Iv A_a.values), (.slice p3 A_a.steps.length q4)]), (Iv left), (Pt b7 0), Ud, (Iv 0), (Pt b7 2), Ud, Ud, Ud, Ud, Ud, Ud]) rfl rfl (does_fieldAddr (ev rfl) fa33_2) rfl ?_
  refine q_is (l' := [(.agg #[(Iv A_a.points), (Iv A_a.values), (.slice p3 A_a.steps.length q4)]), (Iv left), (Pt b7 0), Ud, (Iv 0), (Pt b7 2), (.slice p3 A_a.steps.length q4), Ud, Ud, Ud, Ud, Ud]) rfl rfl (does_load (u := (.slice p3 A_a.steps.length q4)) (ev rfl) Try.isAgg31 (Cells.at (Blk.cells hB9) 2 rfl)) rfl ?_
  refine q_is (l' := [(.agg #[(Iv A_a.points), (Iv A_a.values), (.slice p3 A_a.steps.length q4)]), (Iv left), (Pt b7 0), Ud, (Iv 0), (Pt b7 2), (.slice p3 A_a.steps.length q4), (Iv left), Ud, Ud, Ud, Ud]) rfl rfl (does_move (u := (Iv left)) (ev rfl)) rfl ?_
  refine seqd rfl rfl (does_call (args := #[(.slice p3 A_a.steps.length q4), (Iv left)]) cal47 (evs rfl) (c_laws_szStepS (.slice p3 A_a.steps.length q4) A_a.steps left _ (Sl.ext hs5 RStepT.mono X13) (by omega) (by omega))) ?_; rintro _ w16 ⟨E15, ⟨i17, rfl, h18⟩⟩
  have X19 := Ext.gr X13 E15
  show wpList _ _ _ _ (fr [(.agg #[(Iv A_a.points), (Iv A_a.values), (.slice p3 A_a.steps.length q4)]), (Iv left), (Pt b7 0), Ud, (Iv 0), (Pt b7 2), (.slice p3 A_a.steps.length q4), (Iv left), (Iv i17), Ud, Ud, Ud]) _
  refine q_is (l' := [(.agg #[(Iv A_a.points), (Iv A_a.values), (.slice p3 A_a.steps.length q4)]), (Iv i17), (Pt b7 0), Ud, (Iv 0), (Pt b7 2), (.slice p3 A_a.steps.length q4), (Iv left), (Iv i17), Ud, Ud, Ud]) rfl rfl (does_assign (u := (Iv i17)) (ev rfl)) rfl ?_
  refine wpList_nil (hK14 _ _ ?_)
  refine wp_seq_k fun K20 hK20 => ?_
  refine wp_seq_k fun K21 hK21 => ?_
  refine wp_region_lit ?_
  refine q_is (l' := [(.agg #[(Iv A_a.points), (Iv A_a.values), (.slice p3 A_a.steps.length q4)]), (Iv i17), (Pt b7 0), Ud, (Iv 0), (Pt b7 2), (.slice p3 A_a.steps.length q4), (Iv left), (Iv i17), (Iv i17), Ud, Ud]) rfl rfl (does_move (u := (Iv i17)) (ev rfl)) rfl ?_
  refine q_is (l' := [(.agg #[(Iv A_a.points), (Iv A_a.values), (.slice p3 A_a.steps.length q4)]), (Iv i17), (Pt b7 0), Ud, (Iv 0), (Pt b7 2), (.slice p3 A_a.steps.length q4), (Iv left), (Iv i17), (Iv i17), (Bo (icmp .lss i17 0)), Ud]) rfl rfl (does_icmp (p := i17) (q := 0) (.inr (.inr (.inl rfl))) (ev rfl) (ev rfl)) rfl ?_
  refine wpList_nil (hK21 _ _ ?_)
  refine wp_cond_split (t := icmp .lss i17 0) (ev rfl) (fun c22 => ?_) (fun c22 => ?_)
  · have c22' := c22
    (try simp only [icmp, Bool.and_eq_true, Bool.or_eq_true, Bool.and_eq_false_iff, Bool.or_eq_false_iff, Bool.not_eq_true', Bool.not_eq_false', decide_eq_true_eq, decide_eq_false_iff_not, beq_iff_eq, bne_iff_ne, beq_eq_false_iff_ne, bne_eq_false_iff_eq] at c22')
    refine wp_seq_k fun K23 hK23 => ?_
    refine wp_region_lit ?_
    refine q_is (l' := [(.agg #[(Iv A_a.points), (Iv A_a.values), (.slice p3 A_a.steps.length q4)]), (Iv i17), (Pt b7 0), Ud, (Iv (-1)), (Pt b7 2), (.slice p3 A_a.steps.length q4), (Iv left), (Iv i17), (Iv i17), (Bo (icmp .lss i17 0)), Ud]) rfl rfl (does_assign (u := (Iv (-1))) (ev rfl)) rfl ?_
    refine wpList_nil (hK23 _ _ ?_)
    refine wp_ret ?_
    dsimp only [Exit.then, Exit.inBlock]
    refine ret_val (v := (Iv (-1))) (res_T rfl (slot rfl)) X19 ?_
    have x24 : (-1) < 0 ∨ ((stTot A_a.steps : Int) ≤ left ∧ (-1) = left - stTot A_a.steps ∧ 0 ≤ (-1)) := by omega
    exact ⟨(-1), rfl, x24⟩
  have c22' := c22
  (try simp only [icmp, Bool.and_eq_true, Bool.or_eq_true, Bool.and_eq_false_iff, Bool.or_eq_false_iff, Bool.not_eq_true', Bool.not_eq_false', decide_eq_true_eq, decide_eq_false_iff_not, beq_iff_eq, bne_iff_ne, beq_eq_false_iff_ne, bne_eq_false_iff_eq] at c22')
  refine wp_skip (hK20 _ _ ?_)
  refine wp_seq_k fun K25 hK25 => ?_
  refine wp_region_lit ?_
  refine q_is (l' := [(.agg #[(Iv A_a.points), (Iv A_a.values), (.slice p3 A_a.steps.length q4)]), (Iv i17), (Pt b7 0), Ud, (Iv 0), (Pt b7 2), (.slice p3 A_a.steps.length q4), (Iv left), (Iv i17), (Iv i17), (Bo (icmp .lss i17 0)), (Iv i17)]) rfl rfl (does_move (u := (Iv i17)) (ev rfl)) rfl ?_
  refine q_is (l' := [(.agg #[(Iv A_a.points), (Iv A_a.values), (.slice p3 A_a.steps.length q4)]), (Iv i17), (Pt b7 0), Ud, (Iv i17), (Pt b7 2), (.slice p3 A_a.steps.length q4), (Iv left), (Iv i17), (Iv i17), (Bo (icmp .lss i17 0)), (Iv i17)]) rfl rfl (does_assign (u := (Iv i17)) (ev rfl)) rfl ?_
  refine wpList_nil (hK25 _ _ ?_)
  refine wp_ret ?_
  refine ret_val (v := (Iv i17)) (res_T rfl (slot rfl)) X19 ?_
  have x26 : i17 < 0 ∨ ((stTot A_a.steps : Int) ≤ left ∧ i17 = left - stTot A_a.steps ∧ 0 ≤ i17) := by omega
  exact ⟨i17, rfl, x26⟩

/- laws.toFloat32S -/
theorem c_laws_toFloat32S (a : Value) (L_a : List Nat) (w : World) (hv_a : Sl RF 1 w a L_a) (hsz : L_a.length ≤ 1048576) : Gives Try.prog 43 #[a] w (fun v w' => ∃ y_1 : Value, v = y_1 ∧ Hang w.heap.size w' (fun u => Sl RF 1 u y_1 L_a)) := by
  have hlen_a := Sl.len hv_a; obtain ⟨p_a, q_a, rfl⟩ := Sl.shape hv_a
  refine enter [(.slice p_a L_a.length q_a), Ud, Ud, Ud, Ud, Ud, Ud, Ud, Ud, Ud, Ud, Ud, Ud, Ud, Ud, Ud, Ud, Ud, Ud, Ud, Ud, Ud] Try.func43 rfl Try.ntmps43 rfl ?_
  refine wp_seq_k fun K1 hK1 => ?_
  refine wp_region_lit ?_
  refine q_is (l' := [(.slice p_a L_a.length q_a), Ud, (.slice none 0 0), Ud, Ud, Ud, Ud, Ud, Ud, Ud, Ud, Ud, Ud, Ud, Ud, Ud, Ud, Ud, Ud, Ud, Ud, Ud]) rfl rfl (does_assign (u := (.slice none 0 0)) (ev rfl)) rfl ?_
  refine wpList_nil (hK1 _ _ ?_)
  refine wp_seq_k fun K2 hK2 => ?_
  refine wp_region_lit ?_
  refine q_is (l' := [(.slice p_a L_a.length q_a), Ud, (.slice none 0 0), Ud, Ud, (.slice p_a L_a.length q_a), Ud, Ud, Ud, Ud, Ud, Ud, Ud, Ud, Ud, Ud, Ud, Ud, Ud, Ud, Ud, Ud]) rfl rfl (does_move (u := (.slice p_a L_a.length q_a)) (ev rfl)) rfl ?_
  refine q_is (l' := [(.slice p_a L_a.length q_a), Ud, (.slice none 0 0), Ud, Ud, (.slice p_a L_a.length q_a), (Iv (L_a.length : Int)), Ud, Ud, Ud, Ud, Ud, Ud, Ud, Ud, Ud, Ud, Ud, Ud, Ud, Ud, Ud]) rfl rfl (does_len_slice Try.underlying22 (ev rfl)) rfl ?_
  refine seqd rfl rfl (does_makeSlice (n := L_a.length) Try.underlying22 inf62 (ev rfl) (ev rfl) (by omega)) ?_; rintro _ w7 ⟨b3, rfl, hb4, ⟨cs8, hB5, hl9, hz10⟩, E6⟩
  have g11 : w.heap.size ≤ b3 := Nat.le_trans (Below.size (Ext.refl w)) hb4
  have X12 := Ext.gr (Ext.refl w) E6
  show wpList _ _ _ _ (fr [(.slice p_a L_a.length q_a), Ud, (.slice none 0 0), Ud, Ud, (.slice p_a L_a.length q_a), (Iv (L_a.length : Int)), (.slice (some ⟨b3, 0, none⟩) L_a.length L_a.length), Ud, Ud, Ud, Ud, Ud, Ud, Ud, Ud, Ud, Ud, Ud, Ud, Ud, Ud]) _
  refine q_is (l' := [(.slice p_a L_a.length q_a), Ud, (.slice none 0 0), (.slice (some ⟨b3, 0, none⟩) L_a.length L_a.length), Ud, (.slice p_a L_a.length q_a), (Iv (L_a.length : Int)), (.slice (some ⟨b3, 0, none⟩) L_a.length L_a.length), Ud, Ud, Ud, Ud, Ud, Ud, Ud, Ud, Ud, Ud, Ud, Ud, Ud, Ud]) rfl rfl (does_assign (u := (.slice (some ⟨b3, 0, none⟩) L_a.length L_a.length)) (ev rfl)) rfl ?_
  refine wpList_nil (hK2 _ _ ?_)
  refine wp_seq_k fun K13 hK13 => ?_
  refine wp_seq_k fun K14 hK14 => ?_
  refine wp_region_lit ?_
  refine q_is (l' := [(.slice p_a L_a.length q_a), Ud, (.slice none 0 0), (.slice (some ⟨b3, 0, none⟩) L_a.length L_a.length), (Iv 0), (.slice p_a L_a.length q_a), (Iv (L_a.length : Int)), (.slice (some ⟨b3, 0, none⟩) L_a.length L_a.length), Ud, Ud, Ud, Ud, Ud, Ud, Ud, Ud, Ud, Ud, Ud, Ud, Ud, Ud]) rfl rfl (does_assign (u := (Iv 0)) (ev rfl)) rfl ?_
  refine wpList_nil (hK14 _ _ ?_)
  refine wp_block ?_
  have hF0 : Fill RF 1 w7 b3 L_a.length L_a 0 := Fill.zero hB5 hl9
  refine loop_ghost (σ := Nat) (fun k a w' => ∃ u15 : Nat → Value, a = fr [(.slice p_a L_a.length q_a), Ud, (.slice none 0 0), (.slice (some ⟨b3, 0, none⟩) L_a.length L_a.length), (Iv (k : Int)), (.slice p_a L_a.length q_a), (Iv (L_a.length : Int)), (.slice (some ⟨b3, 0, none⟩) L_a.length L_a.length), (u15 8), (u15 9), (u15 10), (u15 11), (u15 12), (u15 13), (u15 14), (u15 15), (u15 16), (u15 17), (u15 18), (u15 19), (u15 20), Ud] ∧ KpL [b3] w7 w' ∧ Fill RF 1 w' b3 L_a.length L_a k ∧ (k ≤ L_a.length)) (fun k => L_a.length - k) 0 ?_ ?_
  · refine ⟨fun t => (([(.slice p_a L_a.length q_a), Ud, (.slice none 0 0), (.slice (some ⟨b3, 0, none⟩) L_a.length L_a.length), (Iv 0), (.slice p_a L_a.length q_a), (Iv (L_a.length : Int)), (.slice (some ⟨b3, 0, none⟩) L_a.length L_a.length), Ud, Ud, Ud, Ud, Ud, Ud, Ud, Ud, Ud, Ud, Ud, Ud, Ud, Ud] : List Value)[t]?).getD undef, rfl, KpL.refl _ _, hF0, ?_⟩
    exact Nat.zero_le _
  · rintro k a w16 ⟨u15, rfl, E17, hF18, hk⟩
    have X19 := Below.kl X12 E17 (allS g11 all0) (Nat.le_refl _)
    refine wp_seq_k fun K20 hK20 => ?_
    refine wp_seq_k fun K21 hK21 => ?_
    refine wp_region_lit ?_
    refine q_is (l' := [(.slice p_a L_a.length q_a), Ud, (.slice none 0 0), (.slice (some ⟨b3, 0, none⟩) L_a.length L_a.length), (Iv (k : Int)), (.slice p_a L_a.length q_a), (Iv (L_a.length : Int)), (.slice (some ⟨b3, 0, none⟩) L_a.length L_a.length), (Iv (k : Int)), (u15 9), (u15 10), (u15 11), (u15 12), (u15 13), (u15 14), (u15 15), (u15 16), (u15 17), (u15 18), (u15 19), (u15 20), Ud]) rfl rfl (does_move (u := (Iv (k : Int))) (ev rfl)) rfl ?_
    refine q_is (l' := [(.slice p_a L_a.length q_a), Ud, (.slice none 0 0), (.slice (some ⟨b3, 0, none⟩) L_a.length L_a.length), (Iv (k : Int)), (.slice p_a L_a.length q_a), (Iv (L_a.length : Int)), (.slice (some ⟨b3, 0, none⟩) L_a.length L_a.length), (Iv (k : Int)), (.slice p_a L_a.length q_a), (u15 10), (u15 11), (u15 12), (u15 13), (u15 14), (u15 15), (u15 16), (u15 17), (u15 18), (u15 19), (u15 20), Ud]) rfl rfl (does_move (u := (.slice p_a L_a.length q_a)) (ev rfl)) rfl ?_
    refine q_is (l' := [(.slice p_a L_a.length q_a), Ud, (.slice none 0 0), (.slice (some ⟨b3, 0, none⟩) L_a.length L_a.length), (Iv (k : Int)), (.slice p_a L_a.length q_a), (Iv (L_a.length : Int)), (.slice (some ⟨b3, 0, none⟩) L_a.length L_a.length), (Iv (k : Int)), (.slice p_a L_a.length q_a), (Iv (L_a.length : Int)), (u15 11), (u15 12), (u15 13), (u15 14), (u15 15), (u15 16), (u15 17), (u15 18), (u15 19), (u15 20), Ud]) rfl rfl (does_len_slice Try.underlying22 (ev rfl)) rfl ?_
    refine q_is (l' := [(.slice p_a L_a.length q_a), Ud, (.slice none 0 0), (.slice (some ⟨b3, 0, none⟩) L_a.length L_a.length), (Iv (k : Int)), (.slice p_a L_a.length q_a), (Iv (L_a.length : Int)), (.slice (some ⟨b3, 0, none⟩) L_a.length L_a.length), (Iv (k : Int)), (.slice p_a L_a.length q_a), (Iv (L_a.length : Int)), (Bo (icmp .lss (k : Int) (L_a.length : Int))), (u15 12), (u15 13), (u15 14), (u15 15), (u15 16), (u15 17), (u15 18), (u15 19), (u15 20), Ud]) rfl rfl (does_icmp (p := (k : Int)) (q := (L_a.length : Int)) (.inr (.inr (.inl rfl))) (ev rfl) (ev rfl)) rfl ?_
    refine wpList_nil (hK21 _ _ ?_)
    refine wp_cond_split (t := icmp .lss (k : Int) (L_a.length : Int)) (ev rfl) (fun c22 => ?_) (fun c22 => ?_)
    · have c22' := c22
      (try simp only [icmp, Bool.and_eq_true, Bool.or_eq_true, Bool.and_eq_false_iff, Bool.or_eq_false_iff, Bool.not_eq_true', Bool.not_eq_false', decide_eq_true_eq, decide_eq_false_iff_not, beq_iff_eq, bne_iff_ne, beq_eq_false_iff_ne, bne_eq_false_iff_eq] at c22')
      refine wp_skip (hK20 _ _ ?_)
      refine wp_seq_k fun K23 hK23 => ?_
      refine wp_block ?_
      refine wp_region_lit ?_
      refine q_is (l' := [(.slice p_a L_a.length q_a), Ud, (.slice none 0 0), (.slice (some ⟨b3, 0, none⟩) L_a.length L_a.length), (Iv (k : Int)), (.slice p_a L_a.length q_a), (Iv (L_a.length : Int)), (.slice (some ⟨b3, 0, none⟩) L_a.length L_a.length), (Iv (k : Int)), (.slice p_a L_a.length q_a), (Iv (L_a.length : Int)), (Bo (icmp .lss (k : Int) (L_a.length : Int))), (u15 12), (u15 13), (.slice (some ⟨b3, 0, none⟩) L_a.length L_a.length), (u15 15), (u15 16), (u15 17), (u15 18), (u15 19), (u15 20), Ud]) rfl rfl (does_move (u := (.slice (some ⟨b3, 0, none⟩) L_a.length L_a.length)) (ev rfl)) rfl ?_
      refine q_is (l' := [(.slice p_a L_a.length q_a), Ud, (.slice none 0 0), (.slice (some ⟨b3, 0, none⟩) L_a.length L_a.length), (Iv (k : Int)), (.slice p_a L_a.length q_a), (Iv (L_a.length : Int)), (.slice (some ⟨b3, 0, none⟩) L_a.length L_a.length), (Iv (k : Int)), (.slice p_a L_a.length q_a), (Iv (L_a.length : Int)), (Bo (icmp .lss (k : Int) (L_a.length : Int))), (u15 12), (u15 13), (.slice (some ⟨b3, 0, none⟩) L_a.length L_a.length), (Iv (k : Int)), (u15 16), (u15 17), (u15 18), (u15 19), (u15 20), Ud]) rfl rfl (does_move (u := (Iv (k : Int))) (ev rfl)) rfl ?_
      refine q_is (l' := [(.slice p_a L_a.length q_a), Ud, (.slice none 0 0), (.slice (some ⟨b3, 0, none⟩) L_a.length L_a.length), (Iv (k : Int)), (.slice p_a L_a.length q_a), (Iv (L_a.length : Int)), (.slice (some ⟨b3, 0, none⟩) L_a.length L_a.length), (Iv (k : Int)), (.slice p_a L_a.length q_a), (Iv (L_a.length : Int)), (Bo (icmp .lss (k : Int) (L_a.length : Int))), (u15 12), (u15 13), (.slice (some ⟨b3, 0, none⟩) L_a.length L_a.length), (Iv (k : Int)), (.slice p_a L_a.length q_a), (u15 17), (u15 18), (u15 19), (u15 20), Ud]) rfl rfl (does_move (u := (.slice p_a L_a.length q_a)) (ev rfl)) rfl ?_
      refine q_is (l' := [(.slice p_a L_a.length q_a), Ud, (.slice none 0 0), (.slice (some ⟨b3, 0, none⟩) L_a.length L_a.length), (Iv (k : Int)), (.slice p_a L_a.length q_a), (Iv (L_a.length : Int)), (.slice (some ⟨b3, 0, none⟩) L_a.length L_a.length), (Iv (k : Int)), (.slice p_a L_a.length q_a), (Iv (L_a.length : Int)), (Bo (icmp .lss (k : Int) (L_a.length : Int))), (u15 12), (u15 13), (.slice (some ⟨b3, 0, none⟩) L_a.length L_a.length), (Iv (k : Int)), (.slice p_a L_a.length q_a), (Iv (k : Int)), (u15 18), (u15 19), (u15 20), Ud]) rfl rfl (does_move (u := (Iv (k : Int))) (ev rfl)) rfl ?_
      obtain ⟨el1, hel1⟩ : ∃ e, L_a[k]? = some e := ⟨_, List.getElem?_eq_getElem (by omega)⟩
      refine seqd rfl rfl (does_indexSl (R := RF) (i := (k : Int)) (xs := L_a) (e := el1) Try.underlying22 Try.sizeOf62 (ev rfl) (ev rfl) (Sl.ext hv_a RF.mono X19) (by omega) hel1) ?_; rintro _ w16 ⟨b24, o25, _, rfl, hc27, ⟨r28, rfl, h29⟩, rfl⟩
      show wpList _ _ _ _ (fr [(.slice p_a L_a.length q_a), Ud, (.slice none 0 0), (.slice (some ⟨b3, 0, none⟩) L_a.length L_a.length), (Iv (k : Int)), (.slice p_a L_a.length q_a), (Iv (L_a.length : Int)), (.slice (some ⟨b3, 0, none⟩) L_a.length L_a.length), (Iv (k : Int)), (.slice p_a L_a.length q_a), (Iv (L_a.length : Int)), (Bo (icmp .lss (k : Int) (L_a.length : Int))), (u15 12), (u15 13), (.slice (some ⟨b3, 0, none⟩) L_a.length L_a.length), (Iv (k : Int)), (.slice p_a L_a.length q_a), (Iv (k : Int)), (Pt b24 o25), (u15 19), (u15 20), Ud]) _
      refine q_is (l' := [(.slice p_a L_a.length q_a), Ud, (.slice none 0 0), (.slice (some ⟨b3, 0, none⟩) L_a.length L_a.length), (Iv (k : Int)), (.slice p_a L_a.length q_a), (Iv (L_a.length : Int)), (.slice (some ⟨b3, 0, none⟩) L_a.length L_a.length), (Iv (k : Int)), (.slice p_a L_a.length q_a), (Iv (L_a.length : Int)), (Bo (icmp .lss (k : Int) (L_a.length : Int))), (u15 12), (u15 13), (.slice (some ⟨b3, 0, none⟩) L_a.length L_a.length), (Iv (k : Int)), (.slice p_a L_a.length q_a), (Iv (k : Int)), (Pt b24 o25), (Fl r28), (u15 20), Ud]) rfl rfl (does_load (u := (Fl r28)) (ev rfl) Try.isAgg62 (Cells.at hc27 0 rfl)) rfl ?_
      refine q_is (l' := [(.slice p_a L_a.length q_a), Ud, (.slice none 0 0), (.slice (some ⟨b3, 0, none⟩) L_a.length L_a.length), (Iv (k : Int)), (.slice p_a L_a.length q_a), (Iv (L_a.length : Int)), (.slice (some ⟨b3, 0, none⟩) L_a.length L_a.length), (Iv (k : Int)), (.slice p_a L_a.length q_a), (Iv (L_a.length : Int)), (Bo (icmp .lss (k : Int) (L_a.length : Int))), (u15 12), (u15 13), (.slice (some ⟨b3, 0, none⟩) L_a.length L_a.length), (Iv (k : Int)), (.slice p_a L_a.length q_a), (Iv (k : Int)), (Pt b24 o25), (Fl r28), (Pt b3 (k * 1)), Ud]) rfl rfl (does_indexOwn (b := b3) (n := L_a.length) (i := (k : Int)) Try.underlying22 Try.sizeOf62 (ev rfl) (ev rfl) (by omega) (by omega)) rfl ?_
      refine seqn rfl rfl (does_fill (R := RF) (k := 1) (n := L_a.length) (j := k) (xs := L_a) (u := (Fl r28)) (e := el1) (ev rfl) (ev rfl) Try.sizeOf62 rfl rfl hF18 (by omega) hel1 (fun _ => ⟨_, rfl, h29⟩) (fun _ _ _ _ h => h)) ?_; rintro _ w32 ⟨rfl, W30, hF31⟩
      have X33 := Below.wr X19 W30 g11
      refine wpList_nil (hK23 _ _ ?_)
      refine wp_region_lit ?_
      refine q_is (l' := [(.slice p_a L_a.length q_a), Ud, (.slice none 0 0), (.slice (some ⟨b3, 0, none⟩) L_a.length L_a.length), (Iv (k : Int)), (.slice p_a L_a.length q_a), (Iv (L_a.length : Int)), (.slice (some ⟨b3, 0, none⟩) L_a.length L_a.length), (Iv (k : Int)), (.slice p_a L_a.length q_a), (Iv (L_a.length : Int)), (Bo (icmp .lss (k : Int) (L_a.length : Int))), (Iv (k : Int)), (u15 13), (.slice (some ⟨b3, 0, none⟩) L_a.length L_a.length), (Iv (k : Int)), (.slice p_a L_a.length q_a), (Iv (k : Int)), (Pt b24 o25), (Fl r28), (Pt b3 (k * 1)), Ud]) rfl rfl (does_move (u := (Iv (k : Int))) (ev rfl)) rfl ?_
      refine q_is (l' := [(.slice p_a L_a.length q_a), Ud, (.slice none 0 0), (.slice (some ⟨b3, 0, none⟩) L_a.length L_a.length), (Iv (k : Int)), (.slice p_a L_a.length q_a), (Iv (L_a.length : Int)), (.slice (some ⟨b3, 0, none⟩) L_a.length L_a.length), (Iv (k : Int)), (.slice p_a L_a.length q_a), (Iv (L_a.length : Int)), (Bo (icmp .lss (k : Int) (L_a.length : Int))), (Iv (k : Int)), (Iv ((k : Int) + 1)), (.slice (some ⟨b3, 0, none⟩) L_a.length L_a.length), (Iv (k : Int)), (.slice p_a L_a.length q_a), (Iv (k : Int)), (Pt b24 o25), (Fl r28), (Pt b3 (k * 1)), Ud]) rfl rfl (does_iarith (p := (k : Int)) (q := 1) (r := (k : Int) + 1) (ev rfl) (ev rfl) (.inl ⟨rfl, (in_i64 (by omega) (by omega)).symm⟩)) rfl ?_
      refine q_is (l' := [(.slice p_a L_a.length q_a), Ud, (.slice none 0 0), (.slice (some ⟨b3, 0, none⟩) L_a.length L_a.length), (Iv ((k : Int) + 1)), (.slice p_a L_a.length q_a), (Iv (L_a.length : Int)), (.slice (some ⟨b3, 0, none⟩) L_a.length L_a.length), (Iv (k : Int)), (.slice p_a L_a.length q_a), (Iv (L_a.length : Int)), (Bo (icmp .lss (k : Int) (L_a.length : Int))), (Iv (k : Int)), (Iv ((k : Int) + 1)), (.slice (some ⟨b3, 0, none⟩) L_a.length L_a.length), (Iv (k : Int)), (.slice p_a L_a.length q_a), (Iv (k : Int)), (Pt b24 o25), (Fl r28), (Pt b3 (k * 1)), Ud]) rfl rfl (does_assign (u := (Iv ((k : Int) + 1))) (ev rfl)) rfl ?_
      refine wpList_nil ?_
      refine ⟨k + 1, ⟨fun t => (([(.slice p_a L_a.length q_a), Ud, (.slice none 0 0), (.slice (some ⟨b3, 0, none⟩) L_a.length L_a.length), (Iv ((k : Int) + 1)), (.slice p_a L_a.length q_a), (Iv (L_a.length : Int)), (.slice (some ⟨b3, 0, none⟩) L_a.length L_a.length), (Iv (k : Int)), (.slice p_a L_a.length q_a), (Iv (L_a.length : Int)), (Bo (icmp .lss (k : Int) (L_a.length : Int))), (Iv (k : Int)), (Iv ((k : Int) + 1)), (.slice (some ⟨b3, 0, none⟩) L_a.length L_a.length), (Iv (k : Int)), (.slice p_a L_a.length q_a), (Iv (k : Int)), (Pt b24 o25), (Fl r28), (Pt b3 (k * 1)), Ud] : List Value)[t]?).getD undef, ?_, (KpL.more E17 (KpL.of_wr W30) (allS (.inl (by simp)) all0)), hF31, ?_⟩, ?_⟩
      · first | rfl | (simp only [Nat.cast_add, Nat.cast_one, Int.natCast_add, Int.natCast_one]; rfl)
      · omega
      · omega
    have c22' := c22
    (try simp only [icmp, Bool.and_eq_true, Bool.or_eq_true, Bool.and_eq_false_iff, Bool.or_eq_false_iff, Bool.not_eq_true', Bool.not_eq_false', decide_eq_true_eq, decide_eq_false_iff_not, beq_iff_eq, bne_iff_ne, beq_eq_false_iff_ne, bne_eq_false_iff_eq] at c22')
    refine wp_exit ?_
    refine hK13 _ _ ?_
    refine wp_seq_k fun K34 hK34 => ?_
    refine wp_region_lit ?_
    refine q_is (l' := [(.slice p_a L_a.length q_a), Ud, (.slice none 0 0), (.slice (some ⟨b3, 0, none⟩) L_a.length L_a.length), (Iv (k : Int)), (.slice p_a L_a.length q_a), (Iv (L_a.length : Int)), (.slice (some ⟨b3, 0, none⟩) L_a.length L_a.length), (Iv (k : Int)), (.slice p_a L_a.length q_a), (Iv (L_a.length : Int)), (Bo (icmp .lss (k : Int) (L_a.length : Int))), (u15 12), (u15 13), (u15 14), (u15 15), (u15 16), (u15 17), (u15 18), (u15 19), (u15 20), (.slice (some ⟨b3, 0, none⟩) L_a.length L_a.length)]) rfl rfl (does_move (u := (.slice (some ⟨b3, 0, none⟩) L_a.length L_a.length)) (ev rfl)) rfl ?_
    refine q_is (l' := [(.slice p_a L_a.length q_a), Ud, (.slice (some ⟨b3, 0, none⟩) L_a.length L_a.length), (.slice (some ⟨b3, 0, none⟩) L_a.length L_a.length), (Iv (k : Int)), (.slice p_a L_a.length q_a), (Iv (L_a.length : Int)), (.slice (some ⟨b3, 0, none⟩) L_a.length L_a.length), (Iv (k : Int)), (.slice p_a L_a.length q_a), (Iv (L_a.length : Int)), (Bo (icmp .lss (k : Int) (L_a.length : Int))), (u15 12), (u15 13), (u15 14), (u15 15), (u15 16), (u15 17), (u15 18), (u15 19), (u15 20), (.slice (some ⟨b3, 0, none⟩) L_a.length L_a.length)]) rfl rfl (does_assign (u := (.slice (some ⟨b3, 0, none⟩) L_a.length L_a.length)) (ev rfl)) rfl ?_
    refine wpList_nil (hK34 _ _ ?_)
    refine wp_ret ?_
    refine ret_val (v := (.slice (some ⟨b3, 0, none⟩) L_a.length L_a.length)) (res_T rfl (slot rfl)) X19 ?_
    exact ⟨(.slice (some ⟨b3, 0, none⟩) L_a.length L_a.length), rfl, (Fill.hang hF18 RF.flat g11 (by omega) rfl (by omega) (by decide))⟩

/- laws.toNode -/
theorem c_laws_toNode (a : List Value) (A_a : NodeT) (w : World) (hv_a : RNodeT w A_a a) (hsz : A_a.nums.length ≤ 1048576) : Gives Try.prog 12 #[(.agg a.toArray)] w (fun v w' => ∃ cs_1 : List Value, v = (.agg cs_1.toArray) ∧ Hang w.heap.size w' (fun u => RNodeT u A_a cs_1)) := by
  obtain ⟨y1, rfl, h2⟩ := hv_a
  have hs5 := h2; have hs5l := Sl.len h2; obtain ⟨p3, q4, rfl⟩ := Sl.shape h2
  refine enter [(.agg #[(Iv A_a.kind), (Iv A_a.a), (Iv A_a.b), (.slice p3 A_a.nums.length q4)]), Ud, Ud, Ud, Ud, Ud, Ud, Ud, Ud, Ud, Ud, Ud, Ud, Ud, Ud, Ud, Ud, Ud] Try.func12 rfl Try.ntmps12 rfl ?_
  refine wp_seq_k fun K6 hK6 => ?_
  refine wp_region_lit ?_
  refine seqd rfl rfl (does_box (u := (.agg #[(Iv A_a.kind), (Iv A_a.a), (Iv A_a.b), (.slice p3 A_a.nums.length q4)])) (ev rfl)) ?_; rintro _ w11 ⟨b7, rfl, hb8, hB9, E10⟩
  have g12 : w.heap.size ≤ b7 := Nat.le_trans (Below.size (Ext.refl w)) hb8
  change Blk _ _ [(Iv A_a.kind), (Iv A_a.a), (Iv A_a.b), (.slice p3 A_a.nums.length q4)] at hB9
  have X13 := Ext.gr (Ext.refl w) E10
  show wpList _ _ _ _ (fr [(.agg #[(Iv A_a.kind), (Iv A_a.a), (Iv A_a.b), (.slice p3 A_a.nums.length q4)]), (Pt b7 0), Ud, Ud, Ud, Ud, Ud, Ud, Ud, Ud, Ud, Ud, Ud, Ud, Ud, Ud, Ud, Ud]) _
  refine seqd rfl rfl (does_alloc z27) ?_; rintro _ w18 ⟨b14, rfl, hb15, hB16, E17⟩
  have n19 : b7 < b14 := Nat.lt_of_lt_of_le (Blk.lt hB9) hb15
  have g20 : w.heap.size ≤ b14 := Nat.le_trans (Below.size X13) hb15
  change Blk _ _ [(Iv 0), (Iv 0), (Iv 0), (.slice none 0 0)] at hB16
  have X21 := Ext.gr X13 E17
  show wpList _ _ _ _ (fr [(.agg #[(Iv A_a.kind), (Iv A_a.a), (Iv A_a.b), (.slice p3 A_a.nums.length q4)]), (Pt b7 0), (Pt b14 0), Ud, Ud, Ud, Ud, Ud, Ud, Ud, Ud, Ud, Ud, Ud, Ud, Ud, Ud, Ud]) _
  refine wpList_nil (hK6 _ _ ?_)
  refine wp_seq_k fun K22 hK22 => ?_
  refine wp_region_lit ?_
  refine seqd rfl rfl (does_alloc z27) ?_; rintro _ w27 ⟨b23, rfl, hb24, hB25, E26⟩
  have n28 : b7 < b23 := Nat.lt_of_lt_of_le (Blk.lt (hB9.ext E17)) hb24
  have n29 : b14 < b23 := Nat.lt_of_lt_of_le (Blk.lt hB16) hb24
  have g30 : w.heap.size ≤ b23 := Nat.le_trans (Below.size X21) hb24
  change Blk _ _ [(Iv 0), (Iv 0), (Iv 0), (.slice none 0 0)] at hB25
  have X31 := Ext.gr X21 E26
  show wpList _ _ _ _ (fr [(.agg #[(Iv A_a.kind), (Iv A_a.a), (Iv A_a.b), (.slice p3 A_a.nums.length q4)]), (Pt b7 0), (Pt b14 0), (Pt b23 0), Ud, Ud, Ud, Ud, Ud, Ud, Ud, Ud, Ud, Ud, Ud, Ud, Ud, Ud]) _
  refine wpList_nil (hK22 _ _ ?_)
  refine wp_seq_k fun K32 hK32 => ?_
  refine wp_region_lit ?_
  refine q_is (l' := [(.agg #[(Iv A_a.kind), (Iv A_a.a), (Iv A_a.b), (.slice p3 A_a.nums.length q4)]), (Pt b7 0), (Pt b14 0), (Pt b23 0), (Pt b7 0), Ud, Ud, Ud, Ud, Ud, Ud, Ud, Ud, Ud, Ud, Ud, Ud, Ud]) rfl rfl (does_fieldAddr (ev rfl) fa24_0) rfl ?_
  refine q_is (l' := [(.agg #[(Iv A_a.kind), (Iv A_a.a), (Iv A_a.b), (.slice p3 A_a.nums.length q4)]), (Pt b7 0), (Pt b14 0), (Pt b23 0), (Pt b7 0), (Iv A_a.kind), Ud, Ud, Ud, Ud, Ud, Ud, Ud, Ud, Ud, Ud, Ud, Ud]) rfl rfl (does_load (u := (Iv A_a.kind)) (ev rfl) Try.isAgg2 (Cells.at (Blk.cells ((hB9.ext E17).ext E26)) 0 rfl)) rfl ?_
  refine q_is (l' := [(.agg #[(Iv A_a.kind), (Iv A_a.a), (Iv A_a.b), (.slice p3 A_a.nums.length q4)]), (Pt b7 0), (Pt b14 0), (Pt b23 0), (Pt b7 0), (Iv A_a.kind), (Pt b23 0), Ud, Ud, Ud, Ud, Ud, Ud, Ud, Ud, Ud, Ud, Ud]) rfl rfl (does_fieldAddr (ev rfl) fa27_0) rfl ?_
  refine seqn rfl rfl (does_store (n := 1) (cs := [(Iv 0), (Iv 0), (Iv 0), (.slice none 0 0)]) (u := (Iv A_a.kind)) (ev rfl) (ev rfl) Try.sizeOf2 rfl hB25 (Nat.le_of_ble_eq_true rfl) rfl) ?_; rintro _ w35 ⟨rfl, W33, hB34⟩
  change Blk _ _ [(Iv A_a.kind), (Iv 0), (Iv 0), (.slice none 0 0)] at hB34
  have X36 := Below.wr X31 W33 g30
  refine wpList_nil (hK32 _ _ ?_)
  refine wp_seq_k fun K37 hK37 => ?_
  refine wp_region_lit ?_
  refine q_is (l' := [(.agg #[(Iv A_a.kind), (Iv A_a.a), (Iv A_a.b), (.slice p3 A_a.nums.length q4)]), (Pt b7 0), (Pt b14 0), (Pt b23 0), (Pt b7 0), (Iv A_a.kind), (Pt b23 0), (Pt b7 1), Ud, Ud, Ud, Ud, Ud, Ud, Ud, Ud, Ud, Ud]) rfl rfl (does_fieldAddr (ev rfl) fa24_1) rfl ?_
  refine q_is (l' := [(.agg #[(Iv A_a.kind), (Iv A_a.a), (Iv A_a.b), (.slice p3 A_a.nums.length q4)]), (Pt b7 0), (Pt b14 0), (Pt b23 0), (Pt b7 0), (Iv A_a.kind), (Pt b23 0), (Pt b7 1), (Iv A_a.a), Ud, Ud, Ud, Ud, Ud, Ud, Ud, Ud, Ud]) rfl rfl (does_load (u := (Iv A_a.a)) (ev rfl) Try.isAgg2 (Cells.at (Blk.cells (((hB9.ext E17).ext E26).wr W33 (Nat.ne_of_lt n28))) 1 rfl)) rfl ?_
  refine q_is (l' := [(.agg #[(Iv A_a.kind), (Iv A_a.a), (Iv A_a.b), (.slice p3 A_a.nums.length q4)]), (Pt b7 0), (Pt b14 0), (Pt b23 0), (Pt b7 0), (Iv A_a.kind), (Pt b23 0), (Pt b7 1), (Iv A_a.a), (Pt b23 1), Ud, Ud, Ud, Ud, Ud, Ud, Ud, Ud]) rfl rfl (does_fieldAddr (ev rfl) fa27_1) rfl ?_
  refine seqn rfl rfl (does_store (n := 1) (cs := [(Iv A_a.kind), (Iv 0), (Iv 0), (.slice none 0 0)]) (u := (Iv A_a.a)) (ev rfl) (ev rfl) Try.sizeOf2 rfl hB34 (Nat.le_of_ble_eq_true rfl) rfl) ?_; rintro _ w40 ⟨rfl, W38, hB39⟩
  change Blk _ _ [(Iv A_a.kind), (Iv A_a.a), (Iv 0), (.slice none 0 0)] at hB39
  have X41 := Below.wr X36 W38 g30
  refine wpList_nil (hK37 _ _ ?_)
  refine wp_seq_k fun K42 hK42 => ?_
  refine wp_region_lit ?_
  refine q_is (l' := [(.agg #[(Iv A_a.kind), (Iv A_a.a), (Iv A_a.b), (.slice p3 A_a.nums.length q4)]), (Pt b7 0), (Pt b14 0), (Pt b23 0), (Pt b7 0), (Iv A_a.kind), (Pt b23 0), (Pt b7 1), (Iv A_a.a), (Pt b23 1), (Pt b7 2), Ud, Ud, Ud, Ud, Ud, Ud, Ud]) rfl rfl (does_fieldAddr (ev rfl) fa24_2) rfl ?_
  refine q_is (l' := [(.agg #[(Iv A_a.kind), (Iv A_a.a), (Iv A_a.b), (.slice p3 A_a.nums.length q4)]), (Pt b7 0), (Pt b14 0), (Pt b23 0), (Pt b7 0), (Iv A_a.kind), (Pt b23 0), (Pt b7 1), (Iv A_a.a), (Pt b23 1), (Pt b7 2), (Iv A_a.b), Ud, Ud, Ud, Ud, Ud, Ud]) rfl rfl (does_load (u := (Iv A_a.b)) (ev rfl) Try.isAgg2 (Cells.at (Blk.cells ((((hB9.ext E17).ext E26).wr W33 (Nat.ne_of_lt n28)).wr W38 (Nat.ne_of_lt n28))) 2 rfl)) rfl ?_
  refine q_is (l' := [(.agg #[(Iv A_a.kind), (Iv A_a.a), (Iv A_a.b), (.slice p3 A_a.nums.length q4)]), (Pt b7 0), (Pt b14 0), (Pt b23 0), (Pt b7 0), (Iv A_a.kind), (Pt b23 0), (Pt b7 1), (Iv A_a.a), (Pt b23 1), (Pt b7 2), (Iv A_a.b), (Pt b23 2), Ud, Ud, Ud, Ud, Ud]) rfl rfl (does_fieldAddr (ev rfl) fa27_2) rfl ?_
  refine seqn rfl rfl (does_store (n := 1) (cs := [(Iv A_a.kind), (Iv A_a.a), (Iv 0), (.slice none 0 0)]) (u := (Iv A_a.b)) (ev rfl) (ev rfl) Try.sizeOf2 rfl hB39 (Nat.le_of_ble_eq_true rfl) rfl) ?_; rintro _ w45 ⟨rfl, W43, hB44⟩
  change Blk _ _ [(Iv A_a.kind), (Iv A_a.a), (Iv A_a.b), (.slice none 0 0)] at hB44
  have X46 := Below.wr X41 W43 g30
  refine wpList_nil (hK42 _ _ ?_)
  refine wp_seq_k fun K47 hK47 => ?_
  refine wp_region_lit ?_
  refine q_is (l' := [(.agg #[(Iv A_a.kind), (Iv A_a.a), (Iv A_a.b), (.slice p3 A_a.nums.length q4)]), (Pt b7 0), (Pt b14 0), (Pt b23 0), (Pt b7 0), (Iv A_a.kind), (Pt b23 0), (Pt b7 1), (Iv A_a.a), (Pt b23 1), (Pt b7 2), (Iv A_a.b), (Pt b23 2), (Pt b7 3), Ud, Ud, Ud, Ud]) rfl rfl (does_fieldAddr (ev rfl) fa24_3) rfl ?_
  refine q_is (l' := [(.agg #[(Iv A_a.kind), (Iv A_a.a), (Iv A_a.b), (.slice p3 A_a.nums.length q4)]), (Pt b7 0), (Pt b14 0), (Pt b23 0), (Pt b7 0), (Iv A_a.kind), (Pt b23 0), (Pt b7 1), (Iv A_a.a), (Pt b23 1), (Pt b7 2), (Iv A_a.b), (Pt b23 2), (Pt b7 3), (.slice p3 A_a.nums.length q4), Ud, Ud, Ud]) rfl rfl (does_load (u := (.slice p3 A_a.nums.length q4)) (ev rfl) Try.isAgg22 (Cells.at (Blk.cells (((((hB9.ext E17).ext E26).wr W33 (Nat.ne_of_lt n28)).wr W38 (Nat.ne_of_lt n28)).wr W43 (Nat.ne_of_lt n28))) 3 rfl)) rfl ?_
  refine seqd rfl rfl (does_call (args := #[(.slice p3 A_a.nums.length q4)]) cal43 (evs rfl) (c_laws_toFloat32S (.slice p3 A_a.nums.length q4) A_a.nums _ (Sl.ext hs5 RF.mono X46) (by omega))) ?_; rintro _ w49 ⟨E48, ⟨y51, rfl, hh50⟩⟩
  have X52 := Ext.gr X46 E48
  have n53 : b7 < w45.heap.size := Blk.lt (((((hB9.ext E17).ext E26).wr W33 (Nat.ne_of_lt n28)).wr W38 (Nat.ne_of_lt n28)).wr W43 (Nat.ne_of_lt n28))
  have n54 : b14 < w45.heap.size := Blk.lt ((((hB16.ext E26).wr W33 (Nat.ne_of_lt n29)).wr W38 (Nat.ne_of_lt n29)).wr W43 (Nat.ne_of_lt n29))
  have n55 : b23 < w45.heap.size := Blk.lt hB44
  obtain ⟨p56, q57, rfl⟩ := Sl.shape hh50.get
  show wpList _ _ _ _ (fr [(.agg #[(Iv A_a.kind), (Iv A_a.a), (Iv A_a.b), (.slice p3 A_a.nums.length q4)]), (Pt b7 0), (Pt b14 0), (Pt b23 0), (Pt b7 0), (Iv A_a.kind), (Pt b23 0), (Pt b7 1), (Iv A_a.a), (Pt b23 1), (Pt b7 2), (Iv A_a.b), (Pt b23 2), (Pt b7 3), (.slice p3 A_a.nums.length q4), (.slice p56 A_a.nums.length q57), Ud, Ud]) _
  refine q_is (l' := [(.agg #[(Iv A_a.kind), (Iv A_a.a), (Iv A_a.b), (.slice p3 A_a.nums.length q4)]), (Pt b7 0), (Pt b14 0), (Pt b23 0), (Pt b7 0), (Iv A_a.kind), (Pt b23 0), (Pt b7 1), (Iv A_a.a), (Pt b23 1), (Pt b7 2), (Iv A_a.b), (Pt b23 2), (Pt b7 3), (.slice p3 A_a.nums.length q4), (.slice p56 A_a.nums.length q57), (Pt b23 3), Ud]) rfl rfl (does_fieldAddr (ev rfl) fa27_3) rfl ?_
  refine seqn rfl rfl (does_store (n := 1) (cs := [(Iv A_a.kind), (Iv A_a.a), (Iv A_a.b), (.slice none 0 0)]) (u := (.slice p56 A_a.nums.length q57)) (ev rfl) (ev rfl) Try.sizeOf22 rfl (hB44.ext E48) (Nat.le_of_ble_eq_true rfl) rfl) ?_; rintro _ w60 ⟨rfl, W58, hB59⟩
  change Blk _ _ [(Iv A_a.kind), (Iv A_a.a), (Iv A_a.b), (.slice p56 A_a.nums.length q57)] at hB59
  have X61 := Below.wr X52 W58 g30
  refine wpList_nil (hK47 _ _ ?_)
  refine wp_seq_k fun K62 hK62 => ?_
  refine wp_region_lit ?_
  refine q_is (l' := [(.agg #[(Iv A_a.kind), (Iv A_a.a), (Iv A_a.b), (.slice p3 A_a.nums.length q4)]), (Pt b7 0), (Pt b14 0), (Pt b23 0), (Pt b7 0), (Iv A_a.kind), (Pt b23 0), (Pt b7 1), (Iv A_a.a), (Pt b23 1), (Pt b7 2), (Iv A_a.b), (Pt b23 2), (Pt b7 3), (.slice p3 A_a.nums.length q4), (.slice p56 A_a.nums.length q57), (Pt b23 3), (.agg #[(Iv A_a.kind), (Iv A_a.a), (Iv A_a.b), (.slice p56 A_a.nums.length q57)])]) rfl rfl (does_loadAgg (cs := [(Iv A_a.kind), (Iv A_a.a), (Iv A_a.b), (.slice p56 A_a.nums.length q57)]) (ev rfl) Try.isAgg27 Try.sizeOf27 (Blk.cells hB59) rfl) rfl ?_
  refine seqn rfl rfl (does_store (n := 4) (cs := [(Iv 0), (Iv 0), (Iv 0), (.slice none 0 0)]) (u := (.agg #[(Iv A_a.kind), (Iv A_a.a), (Iv A_a.b), (.slice p56 A_a.nums.length q57)])) (ev rfl) (ev rfl) Try.sizeOf27 rfl ((((((hB16.ext E26).wr W33 (Nat.ne_of_lt n29)).wr W38 (Nat.ne_of_lt n29)).wr W43 (Nat.ne_of_lt n29)).ext E48).wr W58 (Nat.ne_of_lt n29)) (Nat.le_of_ble_eq_true rfl) rfl) ?_; rintro _ w65 ⟨rfl, W63, hB64⟩
  change Blk _ _ [(Iv A_a.kind), (Iv A_a.a), (Iv A_a.b), (.slice p56 A_a.nums.length q57)] at hB64
  have X66 := Below.wr X61 W63 g20
  refine wpList_nil (hK62 _ _ ?_)
  refine wp_ret ?_
  refine ret_val (v := (.agg #[(Iv A_a.kind), (Iv A_a.a), (Iv A_a.b), (.slice p56 A_a.nums.length q57)])) (res_C rfl (slot rfl) (run_loadAgg (cs := [(Iv A_a.kind), (Iv A_a.a), (Iv A_a.b), (.slice p56 A_a.nums.length q57)]) Try.isAgg27 Try.sizeOf27 (Blk.cells hB64) rfl)) X66 ?_
  exact ⟨[(Iv A_a.kind), (Iv A_a.a), (Iv A_a.b), (.slice p56 A_a.nums.length q57)], rfl, fun u hu => ⟨(.slice p56 A_a.nums.length q57), rfl, ((Hang.to hh50 (((Same.refl _ _).wr W58 (.inl n55)).wr W63 (.inl n54))).le (Below.size (Below.wr (Below.wr (Below.wr (Ext.gr (Ext.gr (Ext.gr (Ext.refl _) E10) E17) E26) W33 g30) W38 g30) W43 g30))) u hu⟩⟩

/- laws.toStep -/
theorem c_laws_toStep (a : List Value) (A_a : StepT) (w : World) (hv_a : RStepT w A_a a) (hsz : A_a.node.nums.length ≤ 1048576) : Gives Try.prog 94 #[(.agg a.toArray)] w (fun v w' => ∃ cs_1 : List Value, v = (.agg cs_1.toArray) ∧ Hang w.heap.size w' (fun u => RStepT u A_a cs_1)) := by
  obtain ⟨y1, rfl, h2⟩ := hv_a
  have hs5 := h2; have hs5l := Sl.len h2; obtain ⟨p3, q4, rfl⟩ := Sl.shape h2
  refine enter [(.agg #[(Iv A_a.kind), (Iv A_a.to), (Iv A_a.a), (Iv A_a.b), (Iv A_a.node.kind), (Iv A_a.node.a), (Iv A_a.node.b), (.slice p3 A_a.node.nums.length q4)]), Ud, Ud, Ud, Ud, Ud, Ud, Ud, Ud, Ud, Ud, Ud, Ud, Ud, Ud, Ud, Ud, Ud, Ud, Ud, Ud] Try.func94 rfl Try.ntmps94 rfl ?_
  refine wp_seq_k fun K6 hK6 => ?_
  refine wp_region_lit ?_
  refine seqd rfl rfl (does_box (u := (.agg #[(Iv A_a.kind), (Iv A_a.to), (Iv A_a.a), (Iv A_a.b), (Iv A_a.node.kind), (Iv A_a.node.a), (Iv A_a.node.b), (.slice p3 A_a.node.nums.length q4)])) (ev rfl)) ?_; rintro _ w11 ⟨b7, rfl, hb8, hB9, E10⟩
  have g12 : w.heap.size ≤ b7 := Nat.le_trans (Below.size (Ext.refl w)) hb8
  change Blk _ _ [(Iv A_a.kind), (Iv A_a.to), (Iv A_a.a), (Iv A_a.b), (Iv A_a.node.kind), (Iv A_a.node.a), (Iv A_a.node.b), (.slice p3 A_a.node.nums.length q4)] at hB9
  have X13 := Ext.gr (Ext.refl w) E10
  show wpList _ _ _ _ (fr [(.agg #[(Iv A_a.kind), (Iv A_a.to), (Iv A_a.a), (Iv A_a.b), (Iv A_a.node.kind), (Iv A_a.node.a), (Iv A_a.node.b), (.slice p3 A_a.node.nums.length q4)]), (Pt b7 0), Ud, Ud, Ud, Ud, Ud, Ud, Ud, Ud, Ud, Ud, Ud, Ud, Ud, Ud, Ud, Ud, Ud, Ud, Ud]) _
  refine seqd rfl rfl (does_alloc z100) ?_; rintro _ w18 ⟨b14, rfl, hb15, hB16, E17⟩
  have n19 : b7 < b14 := Nat.lt_of_lt_of_le (Blk.lt hB9) hb15
  have g20 : w.heap.size ≤ b14 := Nat.le_trans (Below.size X13) hb15
  change Blk _ _ [(Iv 0), (Iv 0), (Iv 0), (Iv 0), (Iv 0), (Iv 0), (Iv 0), (.slice none 0 0)] at hB16
  have X21 := Ext.gr X13 E17
  show wpList _ _ _ _ (fr [(.agg #[(Iv A_a.kind), (Iv A_a.to), (Iv A_a.a), (Iv A_a.b), (Iv A_a.node.kind), (Iv A_a.node.a), (Iv A_a.node.b), (.slice p3 A_a.node.nums.length q4)]), (Pt b7 0), (Pt b14 0), Ud, Ud, Ud, Ud, Ud, Ud, Ud, Ud, Ud, Ud, Ud, Ud, Ud, Ud, Ud, Ud, Ud, Ud]) _
  refine wpList_nil (hK6 _ _ ?_)
  refine wp_seq_k fun K22 hK22 => ?_
  refine wp_region_lit ?_
  refine seqd rfl rfl (does_alloc z100) ?_; rintro _ w27 ⟨b23, rfl, hb24, hB25, E26⟩
  have n28 : b7 < b23 := Nat.lt_of_lt_of_le (Blk.lt (hB9.ext E17)) hb24
  have n29 : b14 < b23 := Nat.lt_of_lt_of_le (Blk.lt hB16) hb24
  have g30 : w.heap.size ≤ b23 := Nat.le_trans (Below.size X21) hb24
  change Blk _ _ [(Iv 0), (Iv 0), (Iv 0), (Iv 0), (Iv 0), (Iv 0), (Iv 0), (.slice none 0 0)] at hB25
  have X31 := Ext.gr X21 E26
  show wpList _ _ _ _ (fr [(.agg #[(Iv A_a.kind), (Iv A_a.to), (Iv A_a.a), (Iv A_a.b), (Iv A_a.node.kind), (Iv A_a.node.a), (Iv A_a.node.b), (.slice p3 A_a.node.nums.length q4)]), (Pt b7 0), (Pt b14 0), (Pt b23 0), Ud, Ud, Ud, Ud, Ud, Ud, Ud, Ud, Ud, Ud, Ud, Ud, Ud, Ud, Ud, Ud, Ud]) _
  refine wpList_nil (hK22 _ _ ?_)
  refine wp_seq_k fun K32 hK32 => ?_
  refine wp_region_lit ?_
  refine q_is (l' := [(.agg #[(Iv A_a.kind), (Iv A_a.to), (Iv A_a.a), (Iv A_a.b), (Iv A_a.node.kind), (Iv A_a.node.a), (Iv A_a.node.b), (.slice p3 A_a.node.nums.length q4)]), (Pt b7 0), (Pt b14 0), (Pt b23 0), (Pt b7 0), Ud, Ud, Ud, Ud, Ud, Ud, Ud, Ud, Ud, Ud, Ud, Ud, Ud, Ud, Ud, Ud]) rfl rfl (does_fieldAddr (ev rfl) fa147_0) rfl ?_
  refine q_is (l' := [(.agg #[(Iv A_a.kind), (Iv A_a.to), (Iv A_a.a), (Iv A_a.b), (Iv A_a.node.kind), (Iv A_a.node.a), (Iv A_a.node.b), (.slice p3 A_a.node.nums.length q4)]), (Pt b7 0), (Pt b14 0), (Pt b23 0), (Pt b7 0), (Iv A_a.kind), Ud, Ud, Ud, Ud, Ud, Ud, Ud, Ud, Ud, Ud, Ud, Ud, Ud, Ud, Ud]) rfl rfl (does_load (u := (Iv A_a.kind)) (ev rfl) Try.isAgg2 (Cells.at (Blk.cells ((hB9.ext E17).ext E26)) 0 rfl)) rfl ?_
  refine q_is (l' := [(.agg #[(Iv A_a.kind), (Iv A_a.to), (Iv A_a.a), (Iv A_a.b), (Iv A_a.node.kind), (Iv A_a.node.a), (Iv A_a.node.b), (.slice p3 A_a.node.nums.length q4)]), (Pt b7 0), (Pt b14 0), (Pt b23 0), (Pt b7 0), (Iv A_a.kind), (Pt b23 0), Ud, Ud, Ud, Ud, Ud, Ud, Ud, Ud, Ud, Ud, Ud, Ud, Ud, Ud]) rfl rfl (does_fieldAddr (ev rfl) fa100_0) rfl ?_
  refine seqn rfl rfl (does_store (n := 1) (cs := [(Iv 0), (Iv 0), (Iv 0), (Iv 0), (Iv 0), (Iv 0), (Iv 0), (.slice none 0 0)]) (u := (Iv A_a.kind)) (ev rfl) (ev rfl) Try.sizeOf2 rfl hB25 (Nat.le_of_ble_eq_true rfl) rfl) ?_; rintro _ w35 ⟨rfl, W33, hB34⟩
  change Blk _ _ [(Iv A_a.kind), (Iv 0), (Iv 0), (Iv 0), (Iv 0), (Iv 0), (Iv 0), (.slice none 0 0)] at hB34
  have X36 := Below.wr X31 W33 g30
  refine wpList_nil (hK32 _ _ ?_)
  refine wp_seq_k fun K37 hK37 => ?_
  refine wp_region_lit ?_
  refine q_is (l' := [(.agg #[(Iv A_a.kind), (Iv A_a.to), (Iv A_a.a), (Iv A_a.b), (Iv A_a.node.kind), (Iv A_a.node.a), (Iv A_a.node.b), (.slice p3 A_a.node.nums.length q4)]), (Pt b7 0), (Pt b14 0), (Pt b23 0), (Pt b7 0), (Iv A_a.kind), (Pt b23 0), (Pt b7 1), Ud, Ud, Ud, Ud, Ud, Ud, Ud, Ud, Ud, Ud, Ud, Ud, Ud]) rfl rfl (does_fieldAddr (ev rfl) fa147_1) rfl ?_
  refine q_is (l' := [(.agg #[(Iv A_a.kind), (Iv A_a.to), (Iv A_a.a), (Iv A_a.b), (Iv A_a.node.kind), (Iv A_a.node.a), (Iv A_a.node.b), (.slice p3 A_a.node.nums.length q4)]), (Pt b7 0), (Pt b14 0), (Pt b23 0), (Pt b7 0), (Iv A_a.kind), (Pt b23 0), (Pt b7 1), (Iv A_a.to), Ud, Ud, Ud, Ud, Ud, Ud, Ud, Ud, Ud, Ud, Ud, Ud]) rfl rfl (does_load (u := (Iv A_a.to)) (ev rfl) Try.isAgg2 (Cells.at (Blk.cells (((hB9.ext E17).ext E26).wr W33 (Nat.ne_of_lt n28))) 1 rfl)) rfl ?_
  refine q_is (l' := [(.agg #[(Iv A_a.kind), (Iv A_a.to), (Iv A_a.a), (Iv A_a.b), (Iv A_a.node.kind), (Iv A_a.node.a), (Iv A_a.node.b), (.slice p3 A_a.node.nums.length q4)]), (Pt b7 0), (Pt b14 0), (Pt b23 0), (Pt b7 0), (Iv A_a.kind), (Pt b23 0), (Pt b7 1), (Iv A_a.to), (Pt b23 1), Ud, Ud, Ud, Ud, Ud, Ud, Ud, Ud, Ud, Ud, Ud]) rfl rfl (does_fieldAddr (ev rfl) fa100_1) rfl ?_
  refine seqn rfl rfl (does_store (n := 1) (cs := [(Iv A_a.kind), (Iv 0), (Iv 0), (Iv 0), (Iv 0), (Iv 0), (Iv 0), (.slice none 0 0)]) (u := (Iv A_a.to)) (ev rfl) (ev rfl) Try.sizeOf2 rfl hB34 (Nat.le_of_ble_eq_true rfl) rfl) ?_; rintro _ w40 ⟨rfl, W38, hB39⟩
  change Blk _ _ [(Iv A_a.kind), (Iv A_a.to), (Iv 0), (Iv 0), (Iv 0), (Iv 0), (Iv 0), (.slice none 0 0)] at hB39
  have X41 := Below.wr X36 W38 g30
  refine wpList_nil (hK37 _ _ ?_)
  refine wp_seq_k fun K42 hK42 => ?_
  refine wp_region_lit ?_
  refine q_is (l' := [(.agg #[(Iv A_a.kind), (Iv A_a.to), (Iv A_a.a), (Iv A_a.b), (Iv A_a.node.kind), (Iv A_a.node.a), (Iv A_a.node.b), (.slice p3 A_a.node.nums.length q4)]), (Pt b7 0), (Pt b14 0), (Pt b23 0), (Pt b7 0), (Iv A_a.kind), (Pt b23 0), (Pt b7 1), (Iv A_a.to), (Pt b23 1), (Pt b7 2), Ud, Ud, Ud, Ud, Ud, Ud, Ud, Ud, Ud, Ud]) rfl rfl (does_fieldAddr (ev rfl) fa147_2) rfl ?_
  refine q_is (l' := [(.agg #[(Iv A_a.kind), (Iv A_a.to), (Iv A_a.a), (Iv A_a.b), (Iv A_a.node.kind), (Iv A_a.node.a), (Iv A_a.node.b), (.slice p3 A_a.node.nums.length q4)]), (Pt b7 0), (Pt b14 0), (Pt b23 0), (Pt b7 0), (Iv A_a.kind), (Pt b23 0), (Pt b7 1), (Iv A_a.to), (Pt b23 1), (Pt b7 2), (Iv A_a.a), Ud, Ud, Ud, Ud, Ud, Ud, Ud, Ud, Ud]) rfl rfl (does_load (u := (Iv A_a.a)) (ev rfl) Try.isAgg2 (Cells.at (Blk.cells ((((hB9.ext E17).ext E26).wr W33 (Nat.ne_of_lt n28)).wr W38 (Nat.ne_of_lt n28))) 2 rfl)) rfl ?_
  refine q_is (l' := [(.agg #[(Iv A_a.kind), (Iv A_a.to), (Iv A_a.a), (Iv A_a.b), (Iv A_a.node.kind), (Iv A_a.node.a), (Iv A_a.node.b), (.slice p3 A_a.node.nums.length q4)]), (Pt b7 0), (Pt b14 0), (Pt b23 0), (Pt b7 0), (Iv A_a.kind), (Pt b23 0), (Pt b7 1), (Iv A_a.to), (Pt b23 1), (Pt b7 2), (Iv A_a.a), (Pt b23 2), Ud, Ud, Ud, Ud, Ud, Ud, Ud, Ud]) rfl rfl (does_fieldAddr (ev rfl) fa100_2) rfl ?_
  refine seqn rfl rfl (does_store (n := 1) (cs := [(Iv A_a.kind), (Iv A_a.to), (Iv 0), (Iv 0), (Iv 0), (Iv 0), (Iv 0), (.slice none 0 0)]) (u := (Iv A_a.a)) (ev rfl) (ev rfl) Try.sizeOf2 rfl hB39 (Nat.le_of_ble_eq_true rfl) rfl) ?_; rintro _ w45 ⟨rfl, W43, hB44⟩
  change Blk _ _ [(Iv A_a.kind), (Iv A_a.to), (Iv A_a.a), (Iv 0), (Iv 0), (Iv 0), (Iv 0), (.slice none 0 0)] at hB44
  have X46 := Below.wr X41 W43 g30
  refine wpList_nil (hK42 _ _ ?_)
  refine wp_seq_k fun K47 hK47 => ?_
  refine wp_region_lit ?_
  refine q_is (l' := [(.agg #[(Iv A_a.kind), (Iv A_a.to), (Iv A_a.a), (Iv A_a.b), (Iv A_a.node.kind), (Iv A_a.node.a), (Iv A_a.node.b), (.slice p3 A_a.node.nums.length q4)]), (Pt b7 0), (Pt b14 0), (Pt b23 0), (Pt b7 0), (Iv A_a.kind), (Pt b23 0), (Pt b7 1), (Iv A_a.to), (Pt b23 1), (Pt b7 2), (Iv A_a.a), (Pt b23 2), (Pt b7 3), Ud, Ud, Ud, Ud, Ud, Ud, Ud]) rfl rfl (does_fieldAddr (ev rfl) fa147_3) rfl ?_
  refine q_is (l' := [(.agg #[(Iv A_a.kind), (Iv A_a.to), (Iv A_a.a), (Iv A_a.b), (Iv A_a.node.kind), (Iv A_a.node.a), (Iv A_a.node.b), (.slice p3 A_a.node.nums.length q4)]), (Pt b7 0), (Pt b14 0), (Pt b23 0), (Pt b7 0), (Iv A_a.kind), (Pt b23 0), (Pt b7 1), (Iv A_a.to), (Pt b23 1), (Pt b7 2), (Iv A_a.a), (Pt b23 2), (Pt b7 3), (Iv A_a.b), Ud, Ud, Ud, Ud, Ud, Ud]) rfl rfl (does_load (u := (Iv A_a.b)) (ev rfl) Try.isAgg2 (Cells.at (Blk.cells (((((hB9.ext E17).ext E26).wr W33 (Nat.ne_of_lt n28)).wr W38 (Nat.ne_of_lt n28)).wr W43 (Nat.ne_of_lt n28))) 3 rfl)) rfl ?_
  refine q_is (l' := [(.agg #[(Iv A_a.kind), (Iv A_a.to), (Iv A_a.a), (Iv A_a.b), (Iv A_a.node.kind), (Iv A_a.node.a), (Iv A_a.node.b), (.slice p3 A_a.node.nums.length q4)]), (Pt b7 0), (Pt b14 0), (Pt b23 0), (Pt b7 0), (Iv A_a.kind), (Pt b23 0), (Pt b7 1), (Iv A_a.to), (Pt b23 1), (Pt b7 2), (Iv A_a.a), (Pt b23 2), (Pt b7 3), (Iv A_a.b), (Pt b23 3), Ud, Ud, Ud, Ud, Ud]) rfl rfl (does_fieldAddr (ev rfl) fa100_3) rfl ?_
  refine seqn rfl rfl (does_store (n := 1) (cs := [(Iv A_a.kind), (Iv A_a.to), (Iv A_a.a), (Iv 0), (Iv 0), (Iv 0), (Iv 0), (.slice none 0 0)]) (u := (Iv A_a.b)) (ev rfl) (ev rfl) Try.sizeOf2 rfl hB44 (Nat.le_of_ble_eq_true rfl) rfl) ?_; rintro _ w50 ⟨rfl, W48, hB49⟩
  change Blk _ _ [(Iv A_a.kind), (Iv A_a.to), (Iv A_a.a), (Iv A_a.b), (Iv 0), (Iv 0), (Iv 0), (.slice none 0 0)] at hB49
  have X51 := Below.wr X46 W48 g30
  refine wpList_nil (hK47 _ _ ?_)
  refine wp_seq_k fun K52 hK52 => ?_
  refine wp_region_lit ?_
  refine q_is (l' := [(.agg #[(Iv A_a.kind), (Iv A_a.to), (Iv A_a.a), (Iv A_a.b), (Iv A_a.node.kind), (Iv A_a.node.a), (Iv A_a.node.b), (.slice p3 A_a.node.nums.length q4)]), (Pt b7 0), (Pt b14 0), (Pt b23 0), (Pt b7 0), (Iv A_a.kind), (Pt b23 0), (Pt b7 1), (Iv A_a.to), (Pt b23 1), (Pt b7 2), (Iv A_a.a), (Pt b23 2), (Pt b7 3), (Iv A_a.b), (Pt b23 3), (Pt b7 4), Ud, Ud, Ud, Ud]) rfl rfl (does_fieldAddr (ev rfl) fa147_4) rfl ?_
  refine q_is (l' := [(.agg #[(Iv A_a.kind), (Iv A_a.to), (Iv A_a.a), (Iv A_a.b), (Iv A_a.node.kind), (Iv A_a.node.a), (Iv A_a.node.b), (.slice p3 A_a.node.nums.length q4)]), (Pt b7 0), (Pt b14 0), (Pt b23 0), (Pt b7 0), (Iv A_a.kind), (Pt b23 0), (Pt b7 1), (Iv A_a.to), (Pt b23 1), (Pt b7 2), (Iv A_a.a), (Pt b23 2), (Pt b7 3), (Iv A_a.b), (Pt b23 3), (Pt b7 4), (.agg #[(Iv A_a.node.kind), (Iv A_a.node.a), (Iv A_a.node.b), (.slice p3 A_a.node.nums.length q4)]), Ud, Ud, Ud]) rfl rfl (does_loadAgg (cs := [(Iv A_a.node.kind), (Iv A_a.node.a), (Iv A_a.node.b), (.slice p3 A_a.node.nums.length q4)]) (ev rfl) Try.isAgg24 Try.sizeOf24 (Cells.sub (Blk.cells ((((((hB9.ext E17).ext E26).wr W33 (Nat.ne_of_lt n28)).wr W38 (Nat.ne_of_lt n28)).wr W43 (Nat.ne_of_lt n28)).wr W48 (Nat.ne_of_lt n28))) 4 4) rfl) rfl ?_
  refine seqd rfl rfl (does_call (args := #[(.agg #[(Iv A_a.node.kind), (Iv A_a.node.a), (Iv A_a.node.b), (.slice p3 A_a.node.nums.length q4)])]) cal12 (evs rfl) (c_laws_toNode [(Iv A_a.node.kind), (Iv A_a.node.a), (Iv A_a.node.b), (.slice p3 A_a.node.nums.length q4)] A_a.node _ ⟨(.slice p3 A_a.node.nums.length q4), rfl, (Sl.ext hs5 RF.mono X51)⟩ (by omega))) ?_; rintro _ w54 ⟨E53, ⟨cs56, rfl, hh55⟩⟩
  have X57 := Ext.gr X51 E53
  have n58 : b7 < w50.heap.size := Blk.lt ((((((hB9.ext E17).ext E26).wr W33 (Nat.ne_of_lt n28)).wr W38 (Nat.ne_of_lt n28)).wr W43 (Nat.ne_of_lt n28)).wr W48 (Nat.ne_of_lt n28))
  have n59 : b14 < w50.heap.size := Blk.lt (((((hB16.ext E26).wr W33 (Nat.ne_of_lt n29)).wr W38 (Nat.ne_of_lt n29)).wr W43 (Nat.ne_of_lt n29)).wr W48 (Nat.ne_of_lt n29))
  have n60 : b23 < w50.heap.size := Blk.lt hB49
  obtain ⟨y61, rfl, h62⟩ := hh55.get
  have h62l := Sl.len h62; obtain ⟨p63, q64, rfl⟩ := Sl.shape h62
  have hh65 : Hang w50.heap.size w54 (fun u => Sl RF 1 u (.slice p63 A_a.node.nums.length q64) A_a.node.nums) := fun u hu => by obtain ⟨_, hq, _⟩ := hh55 u hu; cases hq; assumption
  show wpList _ _ _ _ (fr [(.agg #[(Iv A_a.kind), (Iv A_a.to), (Iv A_a.a), (Iv A_a.b), (Iv A_a.node.kind), (Iv A_a.node.a), (Iv A_a.node.b), (.slice p3 A_a.node.nums.length q4)]), (Pt b7 0), (Pt b14 0), (Pt b23 0), (Pt b7 0), (Iv A_a.kind), (Pt b23 0), (Pt b7 1), (Iv A_a.to), (Pt b23 1), (Pt b7 2), (Iv A_a.a), (Pt b23 2), (Pt b7 3), (Iv A_a.b), (Pt b23 3), (Pt b7 4), (.agg #[(Iv A_a.node.kind), (Iv A_a.node.a), (Iv A_a.node.b), (.slice p3 A_a.node.nums.length q4)]), (.agg #[(Iv A_a.node.kind), (Iv A_a.node.a), (Iv A_a.node.b), (.slice p63 A_a.node.nums.length q64)]), Ud, Ud]) _
  refine q_is (l' := [(.agg #[(Iv A_a.kind), (Iv A_a.to), (Iv A_a.a), (Iv A_a.b), (Iv A_a.node.kind), (Iv A_a.node.a), (Iv A_a.node.b), (.slice p3 A_a.node.nums.length q4)]), (Pt b7 0), (Pt b14 0), (Pt b23 0), (Pt b7 0), (Iv A_a.kind), (Pt b23 0), (Pt b7 1), (Iv A_a.to), (Pt b23 1), (Pt b7 2), (Iv A_a.a), (Pt b23 2), (Pt b7 3), (Iv A_a.b), (Pt b23 3), (Pt b7 4), (.agg #[(Iv A_a.node.kind), (Iv A_a.node.a), (Iv A_a.node.b), (.slice p3 A_a.node.nums.length q4)]), (.agg #[(Iv A_a.node.kind), (Iv A_a.node.a), (Iv A_a.node.b), (.slice p63 A_a.node.nums.length q64)]), (Pt b23 4), Ud]) rfl rfl (does_fieldAddr (ev rfl) fa100_4) rfl ?_
  refine seqn rfl rfl (does_store (n := 4) (cs := [(Iv A_a.kind), (Iv A_a.to), (Iv A_a.a), (Iv A_a.b), (Iv 0), (Iv 0), (Iv 0), (.slice none 0 0)]) (u := (.agg #[(Iv A_a.node.kind), (Iv A_a.node.a), (Iv A_a.node.b), (.slice p63 A_a.node.nums.length q64)])) (ev rfl) (ev rfl) Try.sizeOf27 rfl (hB49.ext E53) (Nat.le_of_ble_eq_true rfl) rfl) ?_; rintro _ w68 ⟨rfl, W66, hB67⟩
  change Blk _ _ [(Iv A_a.kind), (Iv A_a.to), (Iv A_a.a), (Iv A_a.b), (Iv A_a.node.kind), (Iv A_a.node.a), (Iv A_a.node.b), (.slice p63 A_a.node.nums.length q64)] at hB67
  have X69 := Below.wr X57 W66 g30
  refine wpList_nil (hK52 _ _ ?_)
  refine wp_seq_k fun K70 hK70 => ?_
  refine wp_region_lit ?_
  refine q_is (l' := [(.agg #[(Iv A_a.kind), (Iv A_a.to), (Iv A_a.a), (Iv A_a.b), (Iv A_a.node.kind), (Iv A_a.node.a), (Iv A_a.node.b), (.slice p3 A_a.node.nums.length q4)]), (Pt b7 0), (Pt b14 0), (Pt b23 0), (Pt b7 0), (Iv A_a.kind), (Pt b23 0), (Pt b7 1), (Iv A_a.to), (Pt b23 1), (Pt b7 2), (Iv A_a.a), (Pt b23 2), (Pt b7 3), (Iv A_a.b), (Pt b23 3), (Pt b7 4), (.agg #[(Iv A_a.node.kind), (Iv A_a.node.a), (Iv A_a.node.b), (.slice p3 A_a.node.nums.length q4)]), (.agg #[(Iv A_a.node.kind), (Iv A_a.node.a), (Iv A_a.node.b), (.slice p63 A_a.node.nums.length q64)]), (Pt b23 4), (.agg #[(Iv A_a.kind), (Iv A_a.to), (Iv A_a.a), (Iv A_a.b), (Iv A_a.node.kind), (Iv A_a.node.a), (Iv A_a.node.b), (.slice p63 A_a.node.nums.length q64)])]) rfl rfl (does_loadAgg (cs := [(Iv A_a.kind), (Iv A_a.to), (Iv A_a.a), (Iv A_a.b), (Iv A_a.node.kind), (Iv A_a.node.a), (Iv A_a.node.b), (.slice p63 A_a.node.nums.length q64)]) (ev rfl) Try.isAgg100 Try.sizeOf100 (Blk.cells hB67) rfl) rfl ?_
  refine seqn rfl rfl (does_store (n := 8) (cs := [(Iv 0), (Iv 0), (Iv 0), (Iv 0), (Iv 0), (Iv 0), (Iv 0), (.slice none 0 0)]) (u := (.agg #[(Iv A_a.kind), (Iv A_a.to), (Iv A_a.a), (Iv A_a.b), (Iv A_a.node.kind), (Iv A_a.node.a), (Iv A_a.node.b), (.slice p63 A_a.node.nums.length q64)])) (ev rfl) (ev rfl) Try.sizeOf100 rfl (((((((hB16.ext E26).wr W33 (Nat.ne_of_lt n29)).wr W38 (Nat.ne_of_lt n29)).wr W43 (Nat.ne_of_lt n29)).wr W48 (Nat.ne_of_lt n29)).ext E53).wr W66 (Nat.ne_of_lt n29)) (Nat.le_of_ble_eq_true rfl) rfl) ?_; rintro _ w73 ⟨rfl, W71, hB72⟩
  change Blk _ _ [(Iv A_a.kind), (Iv A_a.to), (Iv A_a.a), (Iv A_a.b), (Iv A_a.node.kind), (Iv A_a.node.a), (Iv A_a.node.b), (.slice p63 A_a.node.nums.length q64)] at hB72
  have X74 := Below.wr X69 W71 g20
  refine wpList_nil (hK70 _ _ ?_)
  refine wp_ret ?_
  refine ret_val (v := (.agg #[(Iv A_a.kind), (Iv A_a.to), (Iv A_a.a), (Iv A_a.b), (Iv A_a.node.kind), (Iv A_a.node.a), (Iv A_a.node.b), (.slice p63 A_a.node.nums.length q64)])) (res_C rfl (slot rfl) (run_loadAgg (cs := [(Iv A_a.kind), (Iv A_a.to), (Iv A_a.a), (Iv A_a.b), (Iv A_a.node.kind), (Iv A_a.node.a), (Iv A_a.node.b), (.slice p63 A_a.node.nums.length q64)]) Try.isAgg100 Try.sizeOf100 (Blk.cells hB72) rfl)) X74 ?_
  exact ⟨[(Iv A_a.kind), (Iv A_a.to), (Iv A_a.a), (Iv A_a.b), (Iv A_a.node.kind), (Iv A_a.node.a), (Iv A_a.node.b), (.slice p63 A_a.node.nums.length q64)], rfl, fun u hu => ⟨(.slice p63 A_a.node.nums.length q64), rfl, ((Hang.to hh65 (((Same.refl _ _).wr W66 (.inl n60)).wr W71 (.inl n59))).le (Below.size (Below.wr (Below.wr (Below.wr (Below.wr (Ext.gr (Ext.gr (Ext.gr (Ext.refl _) E10) E17) E26) W33 g30) W38 g30) W43 g30) W48 g30))) u hu⟩⟩

/- laws.toStepS -/
theorem c_laws_toStepS (a : Value) (L_a : List StepT) (w : World) (hv_a : Sl RStepT 8 w a L_a) (hsz : L_a.length ≤ 1048576) (hall : ∀ s ∈ L_a, s.node.nums.length ≤ 1048576) : Gives Try.prog 49 #[a] w (fun v w' => ∃ y_1 : Value, v = y_1 ∧ Hang w.heap.size w' (fun u => Sl RStepT 8 u y_1 L_a)) := by
  have hlen_a := Sl.len hv_a; obtain ⟨p_a, q_a, rfl⟩ := Sl.shape hv_a
  refine enter [(.slice p_a L_a.length q_a), Ud, Ud, Ud, Ud, Ud, Ud, Ud, Ud, Ud, Ud, Ud, Ud, Ud, Ud, Ud, Ud, Ud, Ud, Ud, Ud, Ud, Ud] Try.func49 rfl Try.ntmps49 rfl ?_
  refine wp_seq_k fun K1 hK1 => ?_
  refine wp_region_lit ?_
  refine q_is (l' := [(.slice p_a L_a.length q_a), Ud, (.slice none 0 0), Ud, Ud, Ud, Ud, Ud, Ud, Ud, Ud, Ud, Ud, Ud, Ud, Ud, Ud, Ud, Ud, Ud, Ud, Ud, Ud]) rfl rfl (does_assign (u := (.slice none 0 0)) (ev rfl)) rfl ?_
  refine wpList_nil (hK1 _ _ ?_)
  refine wp_seq_k fun K2 hK2 => ?_
  refine wp_region_lit ?_
  refine q_is (l' := [(.slice p_a L_a.length q_a), Ud, (.slice none 0 0), Ud, Ud, (.slice p_a L_a.length q_a), Ud, Ud, Ud, Ud, Ud, Ud, Ud, Ud, Ud, Ud, Ud, Ud, Ud, Ud, Ud, Ud, Ud]) rfl rfl (does_move (u := (.slice p_a L_a.length q_a)) (ev rfl)) rfl ?_
  refine q_is (l' := [(.slice p_a L_a.length q_a), Ud, (.slice none 0 0), Ud, Ud, (.slice p_a L_a.length q_a), (Iv (L_a.length : Int)), Ud, Ud, Ud, Ud, Ud, Ud, Ud, Ud, Ud, Ud, Ud, Ud, Ud, Ud, Ud, Ud]) rfl rfl (does_len_slice Try.underlying31 (ev rfl)) rfl ?_
  refine seqd rfl rfl (does_makeSlice (n := L_a.length) Try.underlying36 inf100 (ev rfl) (ev rfl) (by omega)) ?_; rintro _ w7 ⟨b3, rfl, hb4, ⟨cs8, hB5, hl9, hz10⟩, E6⟩
  have g11 : w.heap.size ≤ b3 := Nat.le_trans (Below.size (Ext.refl w)) hb4
  have X12 := Ext.gr (Ext.refl w) E6
  show wpList _ _ _ _ (fr [(.slice p_a L_a.length q_a), Ud, (.slice none 0 0), Ud, Ud, (.slice p_a L_a.length q_a), (Iv (L_a.length : Int)), (.slice (some ⟨b3, 0, none⟩) L_a.length L_a.length), Ud, Ud, Ud, Ud, Ud, Ud, Ud, Ud, Ud, Ud, Ud, Ud, Ud, Ud, Ud]) _
  refine q_is (l' := [(.slice p_a L_a.length q_a), Ud, (.slice none 0 0), (.slice (some ⟨b3, 0, none⟩) L_a.length L_a.length), Ud, (.slice p_a L_a.length q_a), (Iv (L_a.length : Int)), (.slice (some ⟨b3, 0, none⟩) L_a.length L_a.length), Ud, Ud, Ud, Ud, Ud, Ud, Ud, Ud, Ud, Ud, Ud, Ud, Ud, Ud, Ud]) rfl rfl (does_assign (u := (.slice (some ⟨b3, 0, none⟩) L_a.length L_a.length)) (ev rfl)) rfl ?_
  refine wpList_nil (hK2 _ _ ?_)
  refine wp_seq_k fun K13 hK13 => ?_
  refine wp_seq_k fun K14 hK14 => ?_
  refine wp_region_lit ?_
  refine q_is (l' := [(.slice p_a L_a.length q_a), Ud, (.slice none 0 0), (.slice (some ⟨b3, 0, none⟩) L_a.length L_a.length), (Iv 0), (.slice p_a L_a.length q_a), (Iv (L_a.length : Int)), (.slice (some ⟨b3, 0, none⟩) L_a.length L_a.length), Ud, Ud, Ud, Ud, Ud, Ud, Ud, Ud, Ud, Ud, Ud, Ud, Ud, Ud, Ud]) rfl rfl (does_assign (u := (Iv 0)) (ev rfl)) rfl ?_
  refine wpList_nil (hK14 _ _ ?_)
  refine wp_block ?_
  have hF0 : FillH RStepT 8 w7 b3 L_a.length L_a 0 := FillH.zero hB5 hl9
  refine loop_ghost (σ := Nat) (fun k a w' => ∃ u15 : Nat → Value, a = fr [(.slice p_a L_a.length q_a), Ud, (.slice none 0 0), (.slice (some ⟨b3, 0, none⟩) L_a.length L_a.length), (Iv (k : Int)), (.slice p_a L_a.length q_a), (Iv (L_a.length : Int)), (.slice (some ⟨b3, 0, none⟩) L_a.length L_a.length), (u15 8), (u15 9), (u15 10), (u15 11), (u15 12), (u15 13), (u15 14), (u15 15), (u15 16), (u15 17), (u15 18), (u15 19), (u15 20), (u15 21), Ud] ∧ KpL [b3] w7 w' ∧ FillH RStepT 8 w' b3 L_a.length L_a k ∧ (k ≤ L_a.length)) (fun k => L_a.length - k) 0 ?_ ?_
  · refine ⟨fun t => (([(.slice p_a L_a.length q_a), Ud, (.slice none 0 0), (.slice (some ⟨b3, 0, none⟩) L_a.length L_a.length), (Iv 0), (.slice p_a L_a.length q_a), (Iv (L_a.length : Int)), (.slice (some ⟨b3, 0, none⟩) L_a.length L_a.length), Ud, Ud, Ud, Ud, Ud, Ud, Ud, Ud, Ud, Ud, Ud, Ud, Ud, Ud, Ud] : List Value)[t]?).getD undef, rfl, KpL.refl _ _, hF0, ?_⟩
    exact Nat.zero_le _
  · rintro k a w16 ⟨u15, rfl, E17, hF18, hk⟩
    have X19 := Below.kl X12 E17 (allS g11 all0) (Nat.le_refl _)
    refine wp_seq_k fun K20 hK20 => ?_
    refine wp_seq_k fun K21 hK21 => ?_
    refine wp_region_lit ?_
    refine q_is (l' := [(.slice p_a L_a.length q_a), Ud, (.slice none 0 0), (.slice (some ⟨b3, 0, none⟩) L_a.length L_a.length), (Iv (k : Int)), (.slice p_a L_a.length q_a), (Iv (L_a.length : Int)), (.slice (some ⟨b3, 0, none⟩) L_a.length L_a.length), (Iv (k : Int)), (u15 9), (u15 10), (u15 11), (u15 12), (u15 13), (u15 14), (u15 15), (u15 16), (u15 17), (u15 18), (u15 19), (u15 20), (u15 21), Ud]) rfl rfl (does_move (u := (Iv (k : Int))) (ev rfl)) rfl ?_
    refine q_is (l' := [(.slice p_a L_a.length q_a), Ud, (.slice none 0 0), (.slice (some ⟨b3, 0, none⟩) L_a.length L_a.length), (Iv (k : Int)), (.slice p_a L_a.length q_a), (Iv (L_a.length : Int)), (.slice (some ⟨b3, 0, none⟩) L_a.length L_a.length), (Iv (k : Int)), (.slice p_a L_a.length q_a), (u15 10), (u15 11), (u15 12), (u15 13), (u15 14), (u15 15), (u15 16), (u15 17), (u15 18), (u15 19), (u15 20), (u15 21), Ud]) rfl rfl (does_move (u := (.slice p_a L_a.length q_a)) (ev rfl)) rfl ?_
    refine q_is (l' := [(.slice p_a L_a.length q_a), Ud, (.slice none 0 0), (.slice (some ⟨b3, 0, none⟩) L_a.length L_a.length), (Iv (k : Int)), (.slice p_a L_a.length q_a), (Iv (L_a.length : Int)), (.slice (some ⟨b3, 0, none⟩) L_a.length L_a.length), (Iv (k : Int)), (.slice p_a L_a.length q_a), (Iv (L_a.length : Int)), (u15 11), (u15 12), (u15 13), (u15 14), (u15 15), (u15 16), (u15 17), (u15 18), (u15 19), (u15 20), (u15 21), Ud]) rfl rfl (does_len_slice Try.underlying31 (ev rfl)) rfl ?_
    refine q_is (l' := [(.slice p_a L_a.length q_a), Ud, (.slice none 0 0), (.slice (some ⟨b3, 0, none⟩) L_a.length L_a.length), (Iv (k : Int)), (.slice p_a L_a.length q_a), (Iv (L_a.length : Int)), (.slice (some ⟨b3, 0, none⟩) L_a.length L_a.length), (Iv (k : Int)), (.slice p_a L_a.length q_a), (Iv (L_a.length : Int)), (Bo (icmp .lss (k : Int) (L_a.length : Int))), (u15 12), (u15 13), (u15 14), (u15 15), (u15 16), (u15 17), (u15 18), (u15 19), (u15 20), (u15 21), Ud]) rfl rfl (does_icmp (p := (k : Int)) (q := (L_a.length : Int)) (.inr (.inr (.inl rfl))) (ev rfl) (ev rfl)) rfl ?_
    refine wpList_nil (hK21 _ _ ?_)
    refine wp_cond_split (t := icmp .lss (k : Int) (L_a.length : Int)) (ev rfl) (fun c22 => ?_) (fun c22 => ?_)
    · have c22' := c22
      (try simp only [icmp, Bool.and_eq_true, Bool.or_eq_true, Bool.and_eq_false_iff, Bool.or_eq_false_iff, Bool.not_eq_true', Bool.not_eq_false', decide_eq_true_eq, decide_eq_false_iff_not, beq_iff_eq, bne_iff_ne, beq_eq_false_iff_ne, bne_eq_false_iff_eq] at c22')
      refine wp_skip (hK20 _ _ ?_)
      refine wp_seq_k fun K23 hK23 => ?_
      refine wp_block ?_
      refine wp_region_lit ?_
      refine q_is (l' := [(.slice p_a L_a.length q_a), Ud, (.slice none 0 0), (.slice (some ⟨b3, 0, none⟩) L_a.length L_a.length), (Iv (k : Int)), (.slice p_a L_a.length q_a), (Iv (L_a.length : Int)), (.slice (some ⟨b3, 0, none⟩) L_a.length L_a.length), (Iv (k : Int)), (.slice p_a L_a.length q_a), (Iv (L_a.length : Int)), (Bo (icmp .lss (k : Int) (L_a.length : Int))), (u15 12), (u15 13), (.slice (some ⟨b3, 0, none⟩) L_a.length L_a.length), (u15 15), (u15 16), (u15 17), (u15 18), (u15 19), (u15 20), (u15 21), Ud]) rfl rfl (does_move (u := (.slice (some ⟨b3, 0, none⟩) L_a.length L_a.length)) (ev rfl)) rfl ?_
      refine q_is (l' := [(.slice p_a L_a.length q_a), Ud, (.slice none 0 0), (.slice (some ⟨b3, 0, none⟩) L_a.length L_a.length), (Iv (k : Int)), (.slice p_a L_a.length q_a), (Iv (L_a.length : Int)), (.slice (some ⟨b3, 0, none⟩) L_a.length L_a.length), (Iv (k : Int)), (.slice p_a L_a.length q_a), (Iv (L_a.length : Int)), (Bo (icmp .lss (k : Int) (L_a.length : Int))), (u15 12), (u15 13), (.slice (some ⟨b3, 0, none⟩) L_a.length L_a.length), (Iv (k : Int)), (u15 16), (u15 17), (u15 18), (u15 19), (u15 20), (u15 21), Ud]) rfl rfl (does_move (u := (Iv (k : Int))) (ev rfl)) rfl ?_
      refine q_is (l' := [(.slice p_a L_a.length q_a), Ud, (.slice none 0 0), (.slice (some ⟨b3, 0, none⟩) L_a.length L_a.length), (Iv (k : Int)), (.slice p_a L_a.length q_a), (Iv (L_a.length : Int)), (.slice (some ⟨b3, 0, none⟩) L_a.length L_a.length), (Iv (k : Int)), (.slice p_a L_a.length q_a), (Iv (L_a.length : Int)), (Bo (icmp .lss (k : Int) (L_a.length : Int))), (u15 12), (u15 13), (.slice (some ⟨b3, 0, none⟩) L_a.length L_a.length), (Iv (k : Int)), (.slice p_a L_a.length q_a), (u15 17), (u15 18), (u15 19), (u15 20), (u15 21), Ud]) rfl rfl (does_move (u := (.slice p_a L_a.length q_a)) (ev rfl)) rfl ?_
      refine q_is (l' := [(.slice p_a L_a.length q_a), Ud, (.slice none 0 0), (.slice (some ⟨b3, 0, none⟩) L_a.length L_a.length), (Iv (k : Int)), (.slice p_a L_a.length q_a), (Iv (L_a.length : Int)), (.slice (some ⟨b3, 0, none⟩) L_a.length L_a.length), (Iv (k : Int)), (.slice p_a L_a.length q_a), (Iv (L_a.length : Int)), (Bo (icmp .lss (k : Int) (L_a.length : Int))), (u15 12), (u15 13), (.slice (some ⟨b3, 0, none⟩) L_a.length L_a.length), (Iv (k : Int)), (.slice p_a L_a.length q_a), (Iv (k : Int)), (u15 18), (u15 19), (u15 20), (u15 21), Ud]) rfl rfl (does_move (u := (Iv (k : Int))) (ev rfl)) rfl ?_
      obtain ⟨el1, hel1⟩ : ∃ e, L_a[k]? = some e := ⟨_, List.getElem?_eq_getElem (by omega)⟩
      refine seqd rfl rfl (does_indexSl (R := RStepT) (i := (k : Int)) (xs := L_a) (e := el1) Try.underlying31 Try.sizeOf147 (ev rfl) (ev rfl) (Sl.ext hv_a RStepT.mono X19) (by omega) hel1) ?_; rintro _ w16 ⟨b24, o25, _, rfl, hc27, ⟨y28, rfl, h29⟩, rfl⟩
      have hs32 := h29; have hs32l := Sl.len h29; obtain ⟨p30, q31, rfl⟩ := Sl.shape h29
      show wpList _ _ _ _ (fr [(.slice p_a L_a.length q_a), Ud, (.slice none 0 0), (.slice (some ⟨b3, 0, none⟩) L_a.length L_a.length), (Iv (k : Int)), (.slice p_a L_a.length q_a), (Iv (L_a.length : Int)), (.slice (some ⟨b3, 0, none⟩) L_a.length L_a.length), (Iv (k : Int)), (.slice p_a L_a.length q_a), (Iv (L_a.length : Int)), (Bo (icmp .lss (k : Int) (L_a.length : Int))), (u15 12), (u15 13), (.slice (some ⟨b3, 0, none⟩) L_a.length L_a.length), (Iv (k : Int)), (.slice p_a L_a.length q_a), (Iv (k : Int)), (Pt b24 o25), (u15 19), (u15 20), (u15 21), Ud]) _
      refine q_is (l' := [(.slice p_a L_a.length q_a), Ud, (.slice none 0 0), (.slice (some ⟨b3, 0, none⟩) L_a.length L_a.length), (Iv (k : Int)), (.slice p_a L_a.length q_a), (Iv (L_a.length : Int)), (.slice (some ⟨b3, 0, none⟩) L_a.length L_a.length), (Iv (k : Int)), (.slice p_a L_a.length q_a), (Iv (L_a.length : Int)), (Bo (icmp .lss (k : Int) (L_a.length : Int))), (u15 12), (u15 13), (.slice (some ⟨b3, 0, none⟩) L_a.length L_a.length), (Iv (k : Int)), (.slice p_a L_a.length q_a), (Iv (k : Int)), (Pt b24 o25), (.agg #[(Iv el1.kind), (Iv el1.to), (Iv el1.a), (Iv el1.b), (Iv el1.node.kind), (Iv el1.node.a), (Iv el1.node.b), (.slice p30 el1.node.nums.length q31)]), (u15 20), (u15 21), Ud]) rfl rfl (does_loadAgg (cs := [(Iv el1.kind), (Iv el1.to), (Iv el1.a), (Iv el1.b), (Iv el1.node.kind), (Iv el1.node.a), (Iv el1.node.b), (.slice p30 el1.node.nums.length q31)]) (ev rfl) Try.isAgg147 Try.sizeOf147 hc27 rfl) rfl ?_
      refine seqd rfl rfl (does_call (args := #[(.agg #[(Iv el1.kind), (Iv el1.to), (Iv el1.a), (Iv el1.b), (Iv el1.node.kind), (Iv el1.node.a), (Iv el1.node.b), (.slice p30 el1.node.nums.length q31)])]) cal94 (evs rfl) (c_laws_toStep [(Iv el1.kind), (Iv el1.to), (Iv el1.a), (Iv el1.b), (Iv el1.node.kind), (Iv el1.node.a), (Iv el1.node.b), (.slice p30 el1.node.nums.length q31)] el1 _ ⟨(.slice p30 el1.node.nums.length q31), rfl, hs32⟩ (by exact hall _ (List.mem_of_getElem? (by assumption))))) ?_; rintro _ w34 ⟨E33, ⟨cs36, rfl, hh35⟩⟩
      have X37 := Ext.gr X19 E33
      obtain ⟨y39, rfl, h40⟩ := hh35.get
      have h40l := Sl.len h40; obtain ⟨p41, q42, rfl⟩ := Sl.shape h40
      have hh43 : Hang w16.heap.size w34 (fun u => Sl RF 1 u (.slice p41 el1.node.nums.length q42) el1.node.nums) := fun u hu => by obtain ⟨_, hq, _⟩ := hh35 u hu; cases hq; assumption
      show wpList _ _ _ _ (fr [(.slice p_a L_a.length q_a), Ud, (.slice none 0 0), (.slice (some ⟨b3, 0, none⟩) L_a.length L_a.length), (Iv (k : Int)), (.slice p_a L_a.length q_a), (Iv (L_a.length : Int)), (.slice (some ⟨b3, 0, none⟩) L_a.length L_a.length), (Iv (k : Int)), (.slice p_a L_a.length q_a), (Iv (L_a.length : Int)), (Bo (icmp .lss (k : Int) (L_a.length : Int))), (u15 12), (u15 13), (.slice (some ⟨b3, 0, none⟩) L_a.length L_a.length), (Iv (k : Int)), (.slice p_a L_a.length q_a), (Iv (k : Int)), (Pt b24 o25), (.agg #[(Iv el1.kind), (Iv el1.to), (Iv el1.a), (Iv el1.b), (Iv el1.node.kind), (Iv el1.node.a), (Iv el1.node.b), (.slice p30 el1.node.nums.length q31)]), (.agg #[(Iv el1.kind), (Iv el1.to), (Iv el1.a), (Iv el1.b), (Iv el1.node.kind), (Iv el1.node.a), (Iv el1.node.b), (.slice p41 el1.node.nums.length q42)]), (u15 21), Ud]) _
      refine q_is (l' := [(.slice p_a L_a.length q_a), Ud, (.slice none 0 0), (.slice (some ⟨b3, 0, none⟩) L_a.length L_a.length), (Iv (k : Int)), (.slice p_a L_a.length q_a), (Iv (L_a.length : Int)), (.slice (some ⟨b3, 0, none⟩) L_a.length L_a.length), (Iv (k : Int)), (.slice p_a L_a.length q_a), (Iv (L_a.length : Int)), (Bo (icmp .lss (k : Int) (L_a.length : Int))), (u15 12), (u15 13), (.slice (some ⟨b3, 0, none⟩) L_a.length L_a.length), (Iv (k : Int)), (.slice p_a L_a.length q_a), (Iv (k : Int)), (Pt b24 o25), (.agg #[(Iv el1.kind), (Iv el1.to), (Iv el1.a), (Iv el1.b), (Iv el1.node.kind), (Iv el1.node.a), (Iv el1.node.b), (.slice p30 el1.node.nums.length q31)]), (.agg #[(Iv el1.kind), (Iv el1.to), (Iv el1.a), (Iv el1.b), (Iv el1.node.kind), (Iv el1.node.a), (Iv el1.node.b), (.slice p41 el1.node.nums.length q42)]), (Pt b3 (k * 8)), Ud]) rfl rfl (does_indexOwn (b := b3) (n := L_a.length) (i := (k : Int)) Try.underlying36 Try.sizeOf100 (ev rfl) (ev rfl) (by omega) (by omega)) rfl ?_
      have hh44 := Hang.le hh43 (Nat.succ_le_of_lt (FillH.lt hF18))
      refine seqn rfl rfl (does_fillH (R := RStepT) (k := 8) (n := L_a.length) (j := k) (xs := L_a) (u := (.agg #[(Iv el1.kind), (Iv el1.to), (Iv el1.a), (Iv el1.b), (Iv el1.node.kind), (Iv el1.node.a), (Iv el1.node.b), (.slice p41 el1.node.nums.length q42)])) (e := el1) (ev rfl) (ev rfl) Try.sizeOf100 rfl rfl (FillH.ext hF18 RStepT.mono E33) (by omega) hel1 (fun u hu => ⟨(.slice p41 el1.node.nums.length q42), rfl, (hh44 u hu)⟩)) ?_; rintro _ w47 ⟨rfl, W45, hF46⟩
      have X48 := Below.wr X37 W45 g11
      refine wpList_nil (hK23 _ _ ?_)
      refine wp_region_lit ?_
      refine q_is (l' := [(.slice p_a L_a.length q_a), Ud, (.slice none 0 0), (.slice (some ⟨b3, 0, none⟩) L_a.length L_a.length), (Iv (k : Int)), (.slice p_a L_a.length q_a), (Iv (L_a.length : Int)), (.slice (some ⟨b3, 0, none⟩) L_a.length L_a.length), (Iv (k : Int)), (.slice p_a L_a.length q_a), (Iv (L_a.length : Int)), (Bo (icmp .lss (k : Int) (L_a.length : Int))), (Iv (k : Int)), (u15 13), (.slice (some ⟨b3, 0, none⟩) L_a.length L_a.length), (Iv (k : Int)), (.slice p_a L_a.length q_a), (Iv (k : Int)), (Pt b24 o25), (.agg #[(Iv el1.kind), (Iv el1.to), (Iv el1.a), (Iv el1.b), (Iv el1.node.kind), (Iv el1.node.a), (Iv el1.node.b), (.slice p30 el1.node.nums.length q31)]), (.agg #[(Iv el1.kind), (Iv el1.to), (Iv el1.a), (Iv el1.b), (Iv el1.node.kind), (Iv el1.node.a), (Iv el1.node.b), (.slice p41 el1.node.nums.length q42)]), (Pt b3 (k * 8)), Ud]) rfl rfl (does_move (u := (Iv (k : Int))) (ev rfl)) rfl ?_
      refine q_is (l' := [(.slice p_a L_a.length q_a), Ud, (.slice none 0 0), (.slice (some ⟨b3, 0, none⟩) L_a.length L_a.length), (Iv (k : Int)), (.slice p_a L_a.length q_a), (Iv (L_a.length : Int)), (.slice (some ⟨b3, 0, none⟩) L_a.length L_a.length), (Iv (k : Int)), (.slice p_a L_a.length q_a), (Iv (L_a.length : Int)), (Bo (icmp .lss (k : Int) (L_a.length : Int))), (Iv (k : Int)), (Iv ((k : Int) + 1)), (.slice (some ⟨b3, 0, none⟩) L_a.length L_a.length), (Iv (k : Int)), (.slice p_a L_a.length q_a), (Iv (k : Int)), (Pt b24 o25), (.agg #[(Iv el1.kind), (Iv el1.to), (Iv el1.a), (Iv el1.b), (Iv el1.node.kind), (Iv el1.node.a), (Iv el1.node.b), (.slice p30 el1.node.nums.length q31)]), (.agg #[(Iv el1.kind), (Iv el1.to), (Iv el1.a), (Iv el1.b), (Iv el1.node.kind), (Iv el1.node.a), (Iv el1.node.b), (.slice p41 el1.node.nums.length q42)]), (Pt b3 (k * 8)), Ud]) rfl rfl (does_iarith (p := (k : Int)) (q := 1) (r := (k : Int) + 1) (ev rfl) (ev rfl) (.inl ⟨rfl, (in_i64 (by omega) (by omega)).symm⟩)) rfl ?_
      refine q_is (l' := [(.slice p_a L_a.length q_a), Ud, (.slice none 0 0), (.slice (some ⟨b3, 0, none⟩) L_a.length L_a.length), (Iv ((k : Int) + 1)), (.slice p_a L_a.length q_a), (Iv (L_a.length : Int)), (.slice (some ⟨b3, 0, none⟩) L_a.length L_a.length), (Iv (k : Int)), (.slice p_a L_a.length q_a), (Iv (L_a.length : Int)), (Bo (icmp .lss (k : Int) (L_a.length : Int))), (Iv (k : Int)), (Iv ((k : Int) + 1)), (.slice (some ⟨b3, 0, none⟩) L_a.length L_a.length), (Iv (k : Int)), (.slice p_a L_a.length q_a), (Iv (k : Int)), (Pt b24 o25), (.agg #[(Iv el1.kind), (Iv el1.to), (Iv el1.a), (Iv el1.b), (Iv el1.node.kind), (Iv el1.node.a), (Iv el1.node.b), (.slice p30 el1.node.nums.length q31)]), (.agg #[(Iv el1.kind), (Iv el1.to), (Iv el1.a), (Iv el1.b), (Iv el1.node.kind), (Iv el1.node.a), (Iv el1.node.b), (.slice p41 el1.node.nums.length q42)]), (Pt b3 (k * 8)), Ud]) rfl rfl (does_assign (u := (Iv ((k : Int) + 1))) (ev rfl)) rfl ?_
      refine wpList_nil ?_
      refine ⟨k + 1, ⟨fun t => (([(.slice p_a L_a.length q_a), Ud, (.slice none 0 0), (.slice (some ⟨b3, 0, none⟩) L_a.length L_a.length), (Iv ((k : Int) + 1)), (.slice p_a L_a.length q_a), (Iv (L_a.length : Int)), (.slice (some ⟨b3, 0, none⟩) L_a.length L_a.length), (Iv (k : Int)), (.slice p_a L_a.length q_a), (Iv (L_a.length : Int)), (Bo (icmp .lss (k : Int) (L_a.length : Int))), (Iv (k : Int)), (Iv ((k : Int) + 1)), (.slice (some ⟨b3, 0, none⟩) L_a.length L_a.length), (Iv (k : Int)), (.slice p_a L_a.length q_a), (Iv (k : Int)), (Pt b24 o25), (.agg #[(Iv el1.kind), (Iv el1.to), (Iv el1.a), (Iv el1.b), (Iv el1.node.kind), (Iv el1.node.a), (Iv el1.node.b), (.slice p30 el1.node.nums.length q31)]), (.agg #[(Iv el1.kind), (Iv el1.to), (Iv el1.a), (Iv el1.b), (Iv el1.node.kind), (Iv el1.node.a), (Iv el1.node.b), (.slice p41 el1.node.nums.length q42)]), (Pt b3 (k * 8)), Ud] : List Value)[t]?).getD undef, ?_, (KpL.more (KpL.ext E17 E33) (KpL.of_wr W45) (allS (.inl (by simp)) all0)), hF46, ?_⟩, ?_⟩
      · first | rfl | (simp only [Nat.cast_add, Nat.cast_one, Int.natCast_add, Int.natCast_one]; rfl)
      · omega
      · omega
    have c22' := c22
    (try simp only [icmp, Bool.and_eq_true, Bool.or_eq_true, Bool.and_eq_false_iff, Bool.or_eq_false_iff, Bool.not_eq_true', Bool.not_eq_false', decide_eq_true_eq, decide_eq_false_iff_not, beq_iff_eq, bne_iff_ne, beq_eq_false_iff_ne, bne_eq_false_iff_eq] at c22')
    refine wp_exit ?_
    refine hK13 _ _ ?_
    refine wp_seq_k fun K49 hK49 => ?_
    refine wp_region_lit ?_
    refine q_is (l' := [(.slice p_a L_a.length q_a), Ud, (.slice none 0 0), (.slice (some ⟨b3, 0, none⟩) L_a.length L_a.length), (Iv (k : Int)), (.slice p_a L_a.length q_a), (Iv (L_a.length : Int)), (.slice (some ⟨b3, 0, none⟩) L_a.length L_a.length), (Iv (k : Int)), (.slice p_a L_a.length q_a), (Iv (L_a.length : Int)), (Bo (icmp .lss (k : Int) (L_a.length : Int))), (u15 12), (u15 13), (u15 14), (u15 15), (u15 16), (u15 17), (u15 18), (u15 19), (u15 20), (u15 21), (.slice (some ⟨b3, 0, none⟩) L_a.length L_a.length)]) rfl rfl (does_move (u := (.slice (some ⟨b3, 0, none⟩) L_a.length L_a.length)) (ev rfl)) rfl ?_
    refine q_is (l' := [(.slice p_a L_a.length q_a), Ud, (.slice (some ⟨b3, 0, none⟩) L_a.length L_a.length), (.slice (some ⟨b3, 0, none⟩) L_a.length L_a.length), (Iv (k : Int)), (.slice p_a L_a.length q_a), (Iv (L_a.length : Int)), (.slice (some ⟨b3, 0, none⟩) L_a.length L_a.length), (Iv (k : Int)), (.slice p_a L_a.length q_a), (Iv (L_a.length : Int)), (Bo (icmp .lss (k : Int) (L_a.length : Int))), (u15 12), (u15 13), (u15 14), (u15 15), (u15 16), (u15 17), (u15 18), (u15 19), (u15 20), (u15 21), (.slice (some ⟨b3, 0, none⟩) L_a.length L_a.length)]) rfl rfl (does_assign (u := (.slice (some ⟨b3, 0, none⟩) L_a.length L_a.length)) (ev rfl)) rfl ?_
    refine wpList_nil (hK49 _ _ ?_)
    refine wp_ret ?_
    refine ret_val (v := (.slice (some ⟨b3, 0, none⟩) L_a.length L_a.length)) (res_T rfl (slot rfl)) X19 ?_
    exact ⟨(.slice (some ⟨b3, 0, none⟩) L_a.length L_a.length), rfl, (FillH.hang hF18 g11 (by omega) rfl (by omega) (by decide))⟩

/- laws.toProgram -/
theorem c_laws_toProgram (a : List Value) (A_a : ProgT) (w : World) (hv_a : RProgT w A_a a) (hst : stTot A_a.steps ≤ 1048576) : Gives Try.prog 17 #[(.agg a.toArray)] w (fun v w' => ∃ cs_1 : List Value, v = (.agg cs_1.toArray) ∧ Hang w.heap.size w' (fun u => RProgT u A_a cs_1)) := by
  obtain ⟨y1, rfl, h2⟩ := hv_a
  have hs5 := h2; have hs5l := Sl.len h2; obtain ⟨p3, q4, rfl⟩ := Sl.shape h2
  have hse := stTot_each hst
  refine enter [(.agg #[(Iv A_a.points), (Iv A_a.values), (.slice p3 A_a.steps.length q4)]), Ud, Ud, Ud, Ud, Ud, Ud, Ud, Ud, Ud, Ud, Ud, Ud, Ud, Ud] Try.func17 rfl Try.ntmps17 rfl ?_
  refine wp_seq_k fun K6 hK6 => ?_
  refine wp_region_lit ?_
  refine seqd rfl rfl (does_box (u := (.agg #[(Iv A_a.points), (Iv A_a.values), (.slice p3 A_a.steps.length q4)])) (ev rfl)) ?_; rintro _ w11 ⟨b7, rfl, hb8, hB9, E10⟩
  have g12 : w.heap.size ≤ b7 := Nat.le_trans (Below.size (Ext.refl w)) hb8
  change Blk _ _ [(Iv A_a.points), (Iv A_a.values), (.slice p3 A_a.steps.length q4)] at hB9
  have X13 := Ext.gr (Ext.refl w) E10
  show wpList _ _ _ _ (fr [(.agg #[(Iv A_a.points), (Iv A_a.values), (.slice p3 A_a.steps.length q4)]), (Pt b7 0), Ud, Ud, Ud, Ud, Ud, Ud, Ud, Ud, Ud, Ud, Ud, Ud, Ud]) _
  refine seqd rfl rfl (does_alloc z38) ?_; rintro _ w18 ⟨b14, rfl, hb15, hB16, E17⟩
  have n19 : b7 < b14 := Nat.lt_of_lt_of_le (Blk.lt hB9) hb15
  have g20 : w.heap.size ≤ b14 := Nat.le_trans (Below.size X13) hb15
  change Blk _ _ [(Iv 0), (Iv 0), (.slice none 0 0)] at hB16
  have X21 := Ext.gr X13 E17
  show wpList _ _ _ _ (fr [(.agg #[(Iv A_a.points), (Iv A_a.values), (.slice p3 A_a.steps.length q4)]), (Pt b7 0), (Pt b14 0), Ud, Ud, Ud, Ud, Ud, Ud, Ud, Ud, Ud, Ud, Ud, Ud]) _
  refine wpList_nil (hK6 _ _ ?_)
  refine wp_seq_k fun K22 hK22 => ?_
  refine wp_region_lit ?_
  refine seqd rfl rfl (does_alloc z38) ?_; rintro _ w27 ⟨b23, rfl, hb24, hB25, E26⟩
  have n28 : b7 < b23 := Nat.lt_of_lt_of_le (Blk.lt (hB9.ext E17)) hb24
  have n29 : b14 < b23 := Nat.lt_of_lt_of_le (Blk.lt hB16) hb24
  have g30 : w.heap.size ≤ b23 := Nat.le_trans (Below.size X21) hb24
  change Blk _ _ [(Iv 0), (Iv 0), (.slice none 0 0)] at hB25
  have X31 := Ext.gr X21 E26
  show wpList _ _ _ _ (fr [(.agg #[(Iv A_a.points), (Iv A_a.values), (.slice p3 A_a.steps.length q4)]), (Pt b7 0), (Pt b14 0), (Pt b23 0), Ud, Ud, Ud, Ud, Ud, Ud, Ud, Ud, Ud, Ud, Ud]) _
  refine wpList_nil (hK22 _ _ ?_)
  refine wp_seq_k fun K32 hK32 => ?_
  refine wp_region_lit ?_
  refine q_is (l' := [(.agg #[(Iv A_a.points), (Iv A_a.values), (.slice p3 A_a.steps.length q4)]), (Pt b7 0), (Pt b14 0), (Pt b23 0), (Pt b7 0), Ud, Ud, Ud, Ud, Ud, Ud, Ud, Ud, Ud, Ud]) rfl rfl (does_fieldAddr (ev rfl) fa33_0) rfl ?_
  refine q_is (l' := [(.agg #[(Iv A_a.points), (Iv A_a.values), (.slice p3 A_a.steps.length q4)]), (Pt b7 0), (Pt b14 0), (Pt b23 0), (Pt b7 0), (Iv A_a.points), Ud, Ud, Ud, Ud, Ud, Ud, Ud, Ud, Ud]) rfl rfl (does_load (u := (Iv A_a.points)) (ev rfl) Try.isAgg2 (Cells.at (Blk.cells ((hB9.ext E17).ext E26)) 0 rfl)) rfl ?_
  refine q_is (l' := [(.agg #[(Iv A_a.points), (Iv A_a.values), (.slice p3 A_a.steps.length q4)]), (Pt b7 0), (Pt b14 0), (Pt b23 0), (Pt b7 0), (Iv A_a.points), (Pt b23 0), Ud, Ud, Ud, Ud, Ud, Ud, Ud, Ud]) rfl rfl (does_fieldAddr (ev rfl) fa38_0) rfl ?_
  refine seqn rfl rfl (does_store (n := 1) (cs := [(Iv 0), (Iv 0), (.slice none 0 0)]) (u := (Iv A_a.points)) (ev rfl) (ev rfl) Try.sizeOf2 rfl hB25 (Nat.le_of_ble_eq_true rfl) rfl) ?_; rintro _ w35 ⟨rfl, W33, hB34⟩
  change Blk _ _ [(Iv A_a.points), (Iv 0), (.slice none 0 0)] at hB34
  have X36 := Below.wr X31 W33 g30
  refine wpList_nil (hK32 _ _ ?_)
  refine wp_seq_k fun K37 hK37 => ?_
  refine wp_region_lit ?_
  refine q_is (l' := [(.agg #[(Iv A_a.points), (Iv A_a.values), (.slice p3 A_a.steps.length q4)]), (Pt b7 0), (Pt b14 0), (Pt b23 0), (Pt b7 0), (Iv A_a.points), (Pt b23 0), (Pt b7 1), Ud, Ud, Ud, Ud, Ud, Ud, Ud]) rfl rfl (does_fieldAddr (ev rfl) fa33_1) rfl ?_
  refine q_is (l' := [(.agg #[(Iv A_a.points), (Iv A_a.values), (.slice p3 A_a.steps.length q4)]), (Pt b7 0), (Pt b14 0), (Pt b23 0), (Pt b7 0), (Iv A_a.points), (Pt b23 0), (Pt b7 1), (Iv A_a.values), Ud, Ud, Ud, Ud, Ud, Ud]) rfl rfl (does_load (u := (Iv A_a.values)) (ev rfl) Try.isAgg2 (Cells.at (Blk.cells (((hB9.ext E17).ext E26).wr W33 (Nat.ne_of_lt n28))) 1 rfl)) rfl ?_
  refine q_is (l' := [(.agg #[(Iv A_a.points), (Iv A_a.values), (.slice p3 A_a.steps.length q4)]), (Pt b7 0), (Pt b14 0), (Pt b23 0), (Pt b7 0), (Iv A_a.points), (Pt b23 0), (Pt b7 1), (Iv A_a.values), (Pt b23 1), Ud, Ud, Ud, Ud, Ud]) rfl rfl (does_fieldAddr (ev rfl) fa38_1) rfl ?_
  refine seqn rfl rfl (does_store (n := 1) (cs := [(Iv A_a.points), (Iv 0), (.slice none 0 0)]) (u := (Iv A_a.values)) (ev rfl) (ev rfl) Try.sizeOf2 rfl hB34 (Nat.le_of_ble_eq_true rfl) rfl) ?_; rintro _ w40 ⟨rfl, W38, hB39⟩
  change Blk _ _ [(Iv A_a.points), (Iv A_a.values), (.slice none 0 0)] at hB39
  have X41 := Below.wr X36 W38 g30
  refine wpList_nil (hK37 _ _ ?_)
  refine wp_seq_k fun K42 hK42 => ?_
  refine wp_region_lit ?_
  refine q_is (l' := [(.agg #[(Iv A_a.points), (Iv A_a.values), (.slice p3 A_a.steps.length q4)]), (Pt b7 0), (Pt b14 0), (Pt b23 0), (Pt b7 0), (Iv A_a.points), (Pt b23 0), (Pt b7 1), (Iv A_a.values), (Pt b23 1), (Pt b7 2), Ud, Ud, Ud, Ud]) rfl rfl (does_fieldAddr (ev rfl) fa33_2) rfl ?_
  refine q_is (l' := [(.agg #[(Iv A_a.points), (Iv A_a.values), (.slice p3 A_a.steps.length q4)]), (Pt b7 0), (Pt b14 0), (Pt b23 0), (Pt b7 0), (Iv A_a.points), (Pt b23 0), (Pt b7 1), (Iv A_a.values), (Pt b23 1), (Pt b7 2), (.slice p3 A_a.steps.length q4), Ud, Ud, Ud]) rfl rfl (does_load (u := (.slice p3 A_a.steps.length q4)) (ev rfl) Try.isAgg31 (Cells.at (Blk.cells ((((hB9.ext E17).ext E26).wr W33 (Nat.ne_of_lt n28)).wr W38 (Nat.ne_of_lt n28))) 2 rfl)) rfl ?_
  refine seqd rfl rfl (does_call (args := #[(.slice p3 A_a.steps.length q4)]) cal49 (evs rfl) (c_laws_toStepS (.slice p3 A_a.steps.length q4) A_a.steps _ (Sl.ext hs5 RStepT.mono X41) (by exact hse.1) (by exact hse.2))) ?_; rintro _ w44 ⟨E43, ⟨y46, rfl, hh45⟩⟩
  have X47 := Ext.gr X41 E43
  have n48 : b7 < w40.heap.size := Blk.lt ((((hB9.ext E17).ext E26).wr W33 (Nat.ne_of_lt n28)).wr W38 (Nat.ne_of_lt n28))
  have n49 : b14 < w40.heap.size := Blk.lt (((hB16.ext E26).wr W33 (Nat.ne_of_lt n29)).wr W38 (Nat.ne_of_lt n29))
  have n50 : b23 < w40.heap.size := Blk.lt hB39
  obtain ⟨p51, q52, rfl⟩ := Sl.shape hh45.get
  show wpList _ _ _ _ (fr [(.agg #[(Iv A_a.points), (Iv A_a.values), (.slice p3 A_a.steps.length q4)]), (Pt b7 0), (Pt b14 0), (Pt b23 0), (Pt b7 0), (Iv A_a.points), (Pt b23 0), (Pt b7 1), (Iv A_a.values), (Pt b23 1), (Pt b7 2), (.slice p3 A_a.steps.length q4), (.slice p51 A_a.steps.length q52), Ud, Ud]) _
  refine q_is (l' := [(.agg #[(Iv A_a.points), (Iv A_a.values), (.slice p3 A_a.steps.length q4)]), (Pt b7 0), (Pt b14 0), (Pt b23 0), (Pt b7 0), (Iv A_a.points), (Pt b23 0), (Pt b7 1), (Iv A_a.values), (Pt b23 1), (Pt b7 2), (.slice p3 A_a.steps.length q4), (.slice p51 A_a.steps.length q52), (Pt b23 2), Ud]) rfl rfl (does_fieldAddr (ev rfl) fa38_2) rfl ?_
  refine seqn rfl rfl (does_store (n := 1) (cs := [(Iv A_a.points), (Iv A_a.values), (.slice none 0 0)]) (u := (.slice p51 A_a.steps.length q52)) (ev rfl) (ev rfl) Try.sizeOf36 rfl (hB39.ext E43) (Nat.le_of_ble_eq_true rfl) rfl) ?_; rintro _ w55 ⟨rfl, W53, hB54⟩
  change Blk _ _ [(Iv A_a.points), (Iv A_a.values), (.slice p51 A_a.steps.length q52)] at hB54
  have X56 := Below.wr X47 W53 g30
  refine wpList_nil (hK42 _ _ ?_)
  refine wp_seq_k fun K57 hK57 => ?_
  refine wp_region_lit ?_
  refine q_is (l' := [(.agg #[(Iv A_a.points), (Iv A_a.values), (.slice p3 A_a.steps.length q4)]), (Pt b7 0), (Pt b14 0), (Pt b23 0), (Pt b7 0), (Iv A_a.points), (Pt b23 0), (Pt b7 1), (Iv A_a.values), (Pt b23 1), (Pt b7 2), (.slice p3 A_a.steps.length q4), (.slice p51 A_a.steps.length q52), (Pt b23 2), (.agg #[(Iv A_a.points), (Iv A_a.values), (.slice p51 A_a.steps.length q52)])]) rfl rfl (does_loadAgg (cs := [(Iv A_a.points), (Iv A_a.values), (.slice p51 A_a.steps.length q52)]) (ev rfl) Try.isAgg38 Try.sizeOf38 (Blk.cells hB54) rfl) rfl ?_
  refine seqn rfl rfl (does_store (n := 3) (cs := [(Iv 0), (Iv 0), (.slice none 0 0)]) (u := (.agg #[(Iv A_a.points), (Iv A_a.values), (.slice p51 A_a.steps.length q52)])) (ev rfl) (ev rfl) Try.sizeOf38 rfl (((((hB16.ext E26).wr W33 (Nat.ne_of_lt n29)).wr W38 (Nat.ne_of_lt n29)).ext E43).wr W53 (Nat.ne_of_lt n29)) (Nat.le_of_ble_eq_true rfl) rfl) ?_; rintro _ w60 ⟨rfl, W58, hB59⟩
  change Blk _ _ [(Iv A_a.points), (Iv A_a.values), (.slice p51 A_a.steps.length q52)] at hB59
  have X61 := Below.wr X56 W58 g20
  refine wpList_nil (hK57 _ _ ?_)
  refine wp_ret ?_
  refine ret_val (v := (.agg #[(Iv A_a.points), (Iv A_a.values), (.slice p51 A_a.steps.length q52)])) (res_C rfl (slot rfl) (run_loadAgg (cs := [(Iv A_a.points), (Iv A_a.values), (.slice p51 A_a.steps.length q52)]) Try.isAgg38 Try.sizeOf38 (Blk.cells hB59) rfl)) X61 ?_
  exact ⟨[(Iv A_a.points), (Iv A_a.values), (.slice p51 A_a.steps.length q52)], rfl, fun u hu => ⟨(.slice p51 A_a.steps.length q52), rfl, ((Hang.to hh45 (((Same.refl _ _).wr W53 (.inl n50)).wr W58 (.inl n49))).le (Below.size (Below.wr (Below.wr (Ext.gr (Ext.gr (Ext.gr (Ext.refl _) E10) E17) E26) W33 g30) W38 g30))) u hu⟩⟩

/- laws.sameFloat -/
theorem c_laws_sameFloat (x : Nat) (y : Nat) (w : World) : Gives Try.prog 72 #[(Fd x), (Fd y)] w (fun v w' => v = (Bo (sameF (cf .f64 x) (cf .f64 y)))) := by
  refine enter [(Fd x), (Fd y), Ud, Ud, Ud, Ud, Ud, Ud, Ud, Ud, Ud, Ud, Ud, Ud, Ud, Ud, Ud, Ud, Ud, Ud, Ud, Ud, Ud, Ud, Ud, Ud, Ud, Ud, Ud, Ud, Ud, Ud, Ud, Ud, Ud, Ud, Ud] Try.func72 rfl Try.ntmps72 rfl ?_
  refine wp_seq_k fun K1 hK1 => ?_
  refine wp_region_lit ?_
  refine q_is rfl rfl (does_assign (u := (Bo false)) (ev rfl)) (by dsimp only [List.set]; try rfl) ?_
  refine wpList_nil (hK1 _ _ ?_)
  refine wp_seq_k fun K2 hK2 => ?_
  refine wp_seq_k fun K3 hK3 => ?_
  obtain ⟨β1, hβ1⟩ : ∃ b : Bool, b = (fcmp .neq (ford .f64 (cf .f64 x) (cf .f64 x))) := ⟨_, rfl⟩
  obtain ⟨β2, hβ2⟩ : ∃ b : Bool, b = (fcmp .neq (ford .f64 (cf .f64 y) (cf .f64 y))) := ⟨_, rfl⟩
  refine region_text (
    [Fact.pure [] (fun v => v = (Fd x)),
    Fact.pure [] (fun v => v = (Fd x)),
    Fact.pure [5, 6] (fun v => v = (Bo β1)),
    Fact.pure [7] (fun v => v = (Bo β1)),
    Fact.pure [8] (fun v => β1 = false → v = (Fd y)),
    Fact.pure [8] (fun v => β1 = false → v = (Fd y)),
    Fact.pure [9, 10, 8] (fun v => β1 = false → v = (Bo β2)),
    Fact.pure [8, 11] (fun v => v = (Bo (β1 || β2)))]) (by simp [Fact.pure, Fact.mem]) ?_
  refine RW_d _ rfl (fun v => by dsimp only [List.set]; try rfl) (fun u hu hF => ?_) (fun v4 => ?_)
  · clear hF
    refine doesG_un rfl ?_
    refine (does_move (u := (Fd x)) (ev rfl)).mono ?_; rintro _ _ ⟨rfl, rfl⟩
    exact ⟨rfl, Ext.refl _⟩
  refine RW_d _ rfl (fun v => by dsimp only [List.set]; try rfl) (fun u hu hF => ?_) (fun v5 => ?_)
  · clear hF
    refine doesG_un rfl ?_
    refine (does_move (u := (Fd x)) (ev rfl)).mono ?_; rintro _ _ ⟨rfl, rfl⟩
    exact ⟨rfl, Ext.refl _⟩
  refine RW_d _ rfl (fun v => by dsimp only [List.set]; try rfl) (fun u hu hF => ?_) (fun v6 => ?_)
  · have h5_ : v4 = (Fd x) := hF.1
    have h6_ : v5 = (Fd x) := hF.2.1
    clear hF
    refine doesG_un rfl ?_
    obtain rfl := h5_
    obtain rfl := h6_
    refine (does_fcmp (.inr (.inl rfl)) (ev rfl) (ev rfl)).mono ?_; rintro _ _ ⟨rfl, rfl⟩
    exact ⟨(by first | rfl | (show _ = _; simp only [hβ1])), Ext.refl _⟩
  refine RW_d _ rfl (fun v => by dsimp only [List.set]; try rfl) (fun u hu hF => ?_) (fun v7 => ?_)
  · have h7_ : v6 = (Bo β1) := hF.1
    clear hF
    refine doesG_un rfl ?_
    obtain rfl := h7_
    refine (does_move (u := (Bo β1)) (ev rfl)).mono ?_; rintro _ _ ⟨rfl, rfl⟩
    exact ⟨rfl, Ext.refl _⟩
  refine RW_d _ rfl (fun v => by dsimp only [List.set]; try rfl) (fun u hu hF => ?_) (fun v8 => ?_)
  · have h8_ : v7 = (Bo β1) := hF.1
    clear hF
    obtain rfl := h8_
    refine doesG_g (b := β1) rfl (yld rfl rfl) (fun hg1 => ?_) (fun hc => ⟨fun hg1 => absurd hg1 hc, Ext.refl _⟩)
    refine (does_move (u := (Fd y)) (ev rfl)).mono ?_; rintro _ _ ⟨rfl, rfl⟩
    exact ⟨fun _ => rfl, Ext.refl _⟩
  refine RW_d _ rfl (fun v => by dsimp only [List.set]; try rfl) (fun u hu hF => ?_) (fun v9 => ?_)
  · have h8_ : v7 = (Bo β1) := hF.1
    clear hF
    obtain rfl := h8_
    refine doesG_g (b := β1) rfl (yld rfl rfl) (fun hg1 => ?_) (fun hc => ⟨fun hg1 => absurd hg1 hc, Ext.refl _⟩)
    refine (does_move (u := (Fd y)) (ev rfl)).mono ?_; rintro _ _ ⟨rfl, rfl⟩
    exact ⟨fun _ => rfl, Ext.refl _⟩
  refine RW_d _ rfl (fun v => by dsimp only [List.set]; try rfl) (fun u hu hF => ?_) (fun v10 => ?_)
  · have h9_ : β1 = false → v8 = (Fd y) := hF.1
    have h10_ : β1 = false → v9 = (Fd y) := hF.2.1
    have h8_ : v7 = (Bo β1) := hF.2.2.1
    clear hF
    obtain rfl := h8_
    refine doesG_g (b := β1) rfl (yld rfl rfl) (fun hg1 => ?_) (fun hc => ⟨fun hg1 => absurd hg1 hc, Ext.refl _⟩)
    obtain rfl := h9_ hg1
    obtain rfl := h10_ hg1
    refine (does_fcmp (.inr (.inl rfl)) (ev rfl) (ev rfl)).mono ?_; rintro _ _ ⟨rfl, rfl⟩
    exact ⟨fun _ => (by first | rfl | (show _ = _; simp only [hβ2])), Ext.refl _⟩
  refine RW_d _ rfl (fun v => by dsimp only [List.set]; try rfl) (fun u hu hF => ?_) (fun v11 => ?_)
  · have h8_ : v7 = (Bo β1) := hF.1
    have h11_ : β1 = false → v10 = (Bo β2) := hF.2.1
    clear hF
    refine doesG_un rfl ?_
    skip
    obtain rfl := h8_
    refine (does_pick (b := β1) (ev rfl) (ev rfl) (ev rfl)).mono ?_; rintro _ _ ⟨rfl, rfl⟩; refine ⟨?_, Ext.refl _⟩; skip
    cases hbb : β1 <;> simp [hbb] at h11_ ⊢
    all_goals (first | rfl | (subst h11_; rfl) | simp_all)
  refine RW_fin ?_; intro w12 E13 hP14
  obtain ⟨⟨⟨⟨⟨⟨⟨⟨-, -⟩, -⟩, -⟩, -⟩, -⟩, -⟩, -⟩, q15⟩ := hP14
  have X16 := Ext.gr (Ext.refl w) E13
  have q15 : v11 = (Bo (β1 || β2)) := q15
  obtain rfl := q15
  show wpList _ _ _ _ (fr [(Fd x), (Fd y), Ud, Ud, (Bo false), v4, v5, v6, v7, v8, v9, v10, (Bo (β1 || β2)), Ud, Ud, Ud, Ud, Ud, Ud, Ud, Ud, Ud, Ud, Ud, Ud, Ud, Ud, Ud, Ud, Ud, Ud, Ud, Ud, Ud, Ud, Ud, Ud]) _
  refine wpList_nil (hK3 _ _ ?_)
  refine wp_cond_split (t := β1 || β2) (ev rfl) (fun c17 => ?_) (fun c17 => ?_)
  · have c17' := c17
    (try simp only [hβ1, hβ2] at c17')
    (try simp only [icmp, Bool.and_eq_true, Bool.or_eq_true, Bool.and_eq_false_iff, Bool.or_eq_false_iff, Bool.not_eq_true', Bool.not_eq_false', decide_eq_true_eq, decide_eq_false_iff_not, beq_iff_eq, bne_iff_ne, beq_eq_false_iff_ne, bne_eq_false_iff_eq] at c17')
    refine wp_seq_k fun K18 hK18 => ?_
    obtain ⟨β3, hβ3⟩ : ∃ b : Bool, b = (fcmp .neq (ford .f64 (cf .f64 x) (cf .f64 x))) := ⟨_, rfl⟩
    obtain ⟨β4, hβ4⟩ : ∃ b : Bool, b = (fcmp .neq (ford .f64 (cf .f64 y) (cf .f64 y))) := ⟨_, rfl⟩
    refine region_text (
      [Fact.pure [] (fun v => v = (Fd x)),
    Fact.pure [] (fun v => v = (Fd x)),
    Fact.pure [13, 14] (fun v => v = (Bo β3)),
    Fact.pure [15] (fun v => v = (Bo β3)),
    Fact.pure [16] (fun v => β3 = true → v = (Fd y)),
    Fact.pure [16] (fun v => β3 = true → v = (Fd y)),
    Fact.pure [17, 18, 16] (fun v => β3 = true → v = (Bo β4)),
    Fact.pure [16, 19] (fun v => v = (Bo (β3 && β4)))]) (by simp [Fact.pure, Fact.mem]) ?_
    refine RW_d _ rfl (fun v => by dsimp only [List.set]; try rfl) (fun u hu hF => ?_) (fun v19 => ?_)
    · clear hF
      refine doesG_un rfl ?_
      refine (does_move (u := (Fd x)) (ev rfl)).mono ?_; rintro _ _ ⟨rfl, rfl⟩
      exact ⟨rfl, Ext.refl _⟩
    refine RW_d _ rfl (fun v => by dsimp only [List.set]; try rfl) (fun u hu hF => ?_) (fun v20 => ?_)
    · clear hF
      refine doesG_un rfl ?_
      refine (does_move (u := (Fd x)) (ev rfl)).mono ?_; rintro _ _ ⟨rfl, rfl⟩
      exact ⟨rfl, Ext.refl _⟩
    refine RW_d _ rfl (fun v => by dsimp only [List.set]; try rfl) (fun u hu hF => ?_) (fun v21 => ?_)
    · have h13_ : v19 = (Fd x) := hF.1
      have h14_ : v20 = (Fd x) := hF.2.1
      clear hF
      refine doesG_un rfl ?_
      obtain rfl := h13_
      obtain rfl := h14_
      refine (does_fcmp (.inr (.inl rfl)) (ev rfl) (ev rfl)).mono ?_; rintro _ _ ⟨rfl, rfl⟩
      exact ⟨(by first | rfl | (show _ = _; simp only [hβ3])), Ext.refl _⟩
    refine RW_d _ rfl (fun v => by dsimp only [List.set]; try rfl) (fun u hu hF => ?_) (fun v22 => ?_)
    · have h15_ : v21 = (Bo β3) := hF.1
      clear hF
      refine doesG_un rfl ?_
      obtain rfl := h15_
      refine (does_move (u := (Bo β3)) (ev rfl)).mono ?_; rintro _ _ ⟨rfl, rfl⟩
      exact ⟨rfl, Ext.refl _⟩
    refine RW_d _ rfl (fun v => by dsimp only [List.set]; try rfl) (fun u hu hF => ?_) (fun v23 => ?_)
    · have h16_ : v22 = (Bo β3) := hF.1
      clear hF
      obtain rfl := h16_
      refine doesG_g (b := β3) rfl (yld rfl rfl) (fun hg1 => ?_) (fun hc => ⟨fun hg1 => absurd hg1 hc, Ext.refl _⟩)
      refine (does_move (u := (Fd y)) (ev rfl)).mono ?_; rintro _ _ ⟨rfl, rfl⟩
      exact ⟨fun _ => rfl, Ext.refl _⟩
    refine RW_d _ rfl (fun v => by dsimp only [List.set]; try rfl) (fun u hu hF => ?_) (fun v24 => ?_)
    · have h16_ : v22 = (Bo β3) := hF.1
      clear hF
      obtain rfl := h16_
      refine doesG_g (b := β3) rfl (yld rfl rfl) (fun hg1 => ?_) (fun hc => ⟨fun hg1 => absurd hg1 hc, Ext.refl _⟩)
      refine (does_move (u := (Fd y)) (ev rfl)).mono ?_; rintro _ _ ⟨rfl, rfl⟩
      exact ⟨fun _ => rfl, Ext.refl _⟩
    refine RW_d _ rfl (fun v => by dsimp only [List.set]; try rfl) (fun u hu hF => ?_) (fun v25 => ?_)
    · have h17_ : β3 = true → v23 = (Fd y) := hF.1
      have h18_ : β3 = true → v24 = (Fd y) := hF.2.1
      have h16_ : v22 = (Bo β3) := hF.2.2.1
      clear hF
      obtain rfl := h16_
      refine doesG_g (b := β3) rfl (yld rfl rfl) (fun hg1 => ?_) (fun hc => ⟨fun hg1 => absurd hg1 hc, Ext.refl _⟩)
      obtain rfl := h17_ hg1
      obtain rfl := h18_ hg1
      refine (does_fcmp (.inr (.inl rfl)) (ev rfl) (ev rfl)).mono ?_; rintro _ _ ⟨rfl, rfl⟩
      exact ⟨fun _ => (by first | rfl | (show _ = _; simp only [hβ4])), Ext.refl _⟩
    refine RW_d _ rfl (fun v => by dsimp only [List.set]; try rfl) (fun u hu hF => ?_) (fun v26 => ?_)
    · have h16_ : v22 = (Bo β3) := hF.1
      have h19_ : β3 = true → v25 = (Bo β4) := hF.2.1
      clear hF
      refine doesG_un rfl ?_
      skip
      obtain rfl := h16_
      refine (does_pick (b := β3) (ev rfl) (ev rfl) (ev rfl)).mono ?_; rintro _ _ ⟨rfl, rfl⟩; refine ⟨?_, Ext.refl _⟩; skip
      cases hbb : β3 <;> simp [hbb] at h19_ ⊢
      all_goals (first | rfl | (subst h19_; rfl) | simp_all)
    refine RW_fin ?_; intro w27 E28 hP29
    obtain ⟨⟨⟨⟨⟨⟨⟨⟨-, -⟩, -⟩, -⟩, -⟩, -⟩, -⟩, -⟩, q30⟩ := hP29
    have X31 := Ext.gr X16 E28
    have q30 : v26 = (Bo (β3 && β4)) := q30
    obtain rfl := q30
    show wpList _ _ _ _ (fr [(Fd x), (Fd y), Ud, Ud, (Bo false), v4, v5, v6, v7, v8, v9, v10, (Bo (β1 || β2)), v19, v20, v21, v22, v23, v24, v25, (Bo (β3 && β4)), Ud, Ud, Ud, Ud, Ud, Ud, Ud, Ud, Ud, Ud, Ud, Ud, Ud, Ud, Ud, Ud]) _
    refine q_is rfl rfl (does_assign (u := (Bo (β3 && β4))) (ev rfl)) (by dsimp only [List.set]; try rfl) ?_
    refine wpList_nil (hK18 _ _ ?_)
    refine wp_ret ?_
    dsimp only [Exit.then, Exit.inBlock]
    refine ret_val (v := (Bo (β3 && β4))) (res_T rfl (slot rfl)) X31 ?_
    try simp only [hβ1, hβ2, hβ3, hβ4] at c17
    have x32 : (sameF (cf .f64 x) (cf .f64 y)) = (β3 && β4) := by first | with_reducible rfl | (simp only [sameF, hβ1, hβ2, hβ3, hβ4, c17]; done) | (simp [sameF, hβ1, hβ2, hβ3, hβ4, c17]; done) | (revert c17; simp +contextual [sameF, hβ1, hβ2, hβ3, hβ4]; done) | (rcases c17' with hh | hh <;> simp only [hh, sameF, hβ1, hβ2, hβ3, hβ4, c17]; done) | (rcases c17' with hh | hh <;> simp_all [sameF]; done) | (rcases c17' with hh | hh | hh <;> simp_all [sameF]; done) | (rcases c17' with hh | hh | hh | hh <;> simp_all [sameF]; done) | (simp_all [sameF]; done) | rfl
    exact (by first | rfl | rw [x32])
  have c17' := c17
  (try simp only [hβ1, hβ2] at c17')
  (try simp only [icmp, Bool.and_eq_true, Bool.or_eq_true, Bool.and_eq_false_iff, Bool.or_eq_false_iff, Bool.not_eq_true', Bool.not_eq_false', decide_eq_true_eq, decide_eq_false_iff_not, beq_iff_eq, bne_iff_ne, beq_eq_false_iff_ne, bne_eq_false_iff_eq] at c17')
  refine wp_skip (hK2 _ _ ?_)
  refine wp_seq_k fun K33 hK33 => ?_
  refine wp_seq_k fun K34 hK34 => ?_
  obtain ⟨β5, hβ5⟩ : ∃ b : Bool, b = (fcmp .eql (ford .f64 (cf .f64 x) (cf .f64 0))) := ⟨_, rfl⟩
  obtain ⟨β6, hβ6⟩ : ∃ b : Bool, b = (fcmp .eql (ford .f64 (cf .f64 y) (cf .f64 0))) := ⟨_, rfl⟩
  refine region_text (
    [Fact.pure [] (fun v => v = (Fd x)),
    Fact.pure [21] (fun v => v = (Bo β5)),
    Fact.pure [22] (fun v => v = (Bo β5)),
    Fact.pure [23] (fun v => β5 = true → v = (Fd y)),
    Fact.pure [24, 23] (fun v => β5 = true → v = (Bo β6)),
    Fact.pure [23, 25] (fun v => v = (Bo (β5 && β6)))]) (by simp [Fact.pure, Fact.mem]) ?_
  refine RW_d _ rfl (fun v => by dsimp only [List.set]; try rfl) (fun u hu hF => ?_) (fun v35 => ?_)
  · clear hF
    refine doesG_un rfl ?_
    refine (does_move (u := (Fd x)) (ev rfl)).mono ?_; rintro _ _ ⟨rfl, rfl⟩
    exact ⟨rfl, Ext.refl _⟩
  refine RW_d _ rfl (fun v => by dsimp only [List.set]; try rfl) (fun u hu hF => ?_) (fun v36 => ?_)
  · have h21_ : v35 = (Fd x) := hF.1
    clear hF
    refine doesG_un rfl ?_
    obtain rfl := h21_
    refine (does_fcmp (.inl rfl) (ev rfl) (ev rfl)).mono ?_; rintro _ _ ⟨rfl, rfl⟩
    exact ⟨(by first | rfl | (show _ = _; simp only [hβ5])), Ext.refl _⟩
  refine RW_d _ rfl (fun v => by dsimp only [List.set]; try rfl) (fun u hu hF => ?_) (fun v37 => ?_)
  · have h22_ : v36 = (Bo β5) := hF.1
    clear hF
    refine doesG_un rfl ?_
    obtain rfl := h22_
    refine (does_move (u := (Bo β5)) (ev rfl)).mono ?_; rintro _ _ ⟨rfl, rfl⟩
    exact ⟨rfl, Ext.refl _⟩
  refine RW_d _ rfl (fun v => by dsimp only [List.set]; try rfl) (fun u hu hF => ?_) (fun v38 => ?_)
  · have h23_ : v37 = (Bo β5) := hF.1
    clear hF
    obtain rfl := h23_
    refine doesG_g (b := β5) rfl (yld rfl rfl) (fun hg1 => ?_) (fun hc => ⟨fun hg1 => absurd hg1 hc, Ext.refl _⟩)
    refine (does_move (u := (Fd y)) (ev rfl)).mono ?_; rintro _ _ ⟨rfl, rfl⟩
    exact ⟨fun _ => rfl, Ext.refl _⟩
  refine RW_d _ rfl (fun v => by dsimp only [List.set]; try rfl) (fun u hu hF => ?_) (fun v39 => ?_)
  · have h24_ : β5 = true → v38 = (Fd y) := hF.1
    have h23_ : v37 = (Bo β5) := hF.2.1
    clear hF
    obtain rfl := h23_
    refine doesG_g (b := β5) rfl (yld rfl rfl) (fun hg1 => ?_) (fun hc => ⟨fun hg1 => absurd hg1 hc, Ext.refl _⟩)
    obtain rfl := h24_ hg1
    refine (does_fcmp (.inl rfl) (ev rfl) (ev rfl)).mono ?_; rintro _ _ ⟨rfl, rfl⟩
    exact ⟨fun _ => (by first | rfl | (show _ = _; simp only [hβ6])), Ext.refl _⟩
  refine RW_d _ rfl (fun v => by dsimp only [List.set]; try rfl) (fun u hu hF => ?_) (fun v40 => ?_)
  · have h23_ : v37 = (Bo β5) := hF.1
    have h25_ : β5 = true → v39 = (Bo β6) := hF.2.1
    clear hF
    refine doesG_un rfl ?_
    skip
    obtain rfl := h23_
    refine (does_pick (b := β5) (ev rfl) (ev rfl) (ev rfl)).mono ?_; rintro _ _ ⟨rfl, rfl⟩; refine ⟨?_, Ext.refl _⟩; skip
    cases hbb : β5 <;> simp [hbb] at h25_ ⊢
    all_goals (first | rfl | (subst h25_; rfl) | simp_all)
  refine RW_fin ?_; intro w41 E42 hP43
  obtain ⟨⟨⟨⟨⟨⟨-, -⟩, -⟩, -⟩, -⟩, -⟩, q44⟩ := hP43
  have X45 := Ext.gr X16 E42
  have q44 : v40 = (Bo (β5 && β6)) := q44
  obtain rfl := q44
  show wpList _ _ _ _ (fr [(Fd x), (Fd y), Ud, Ud, (Bo false), v4, v5, v6, v7, v8, v9, v10, (Bo (β1 || β2)), Ud, Ud, Ud, Ud, Ud, Ud, Ud, Ud, v35, v36, v37, v38, v39, (Bo (β5 && β6)), Ud, Ud, Ud, Ud, Ud, Ud, Ud, Ud, Ud, Ud]) _
  refine wpList_nil (hK34 _ _ ?_)
  refine wp_cond_split (t := β5 && β6) (ev rfl) (fun c46 => ?_) (fun c46 => ?_)
  · have c46' := c46
    (try simp only [hβ1, hβ2, hβ5, hβ6] at c46')
    (try simp only [icmp, Bool.and_eq_true, Bool.or_eq_true, Bool.and_eq_false_iff, Bool.or_eq_false_iff, Bool.not_eq_true', Bool.not_eq_false', decide_eq_true_eq, decide_eq_false_iff_not, beq_iff_eq, bne_iff_ne, beq_eq_false_iff_ne, bne_eq_false_iff_eq] at c46')
    refine wp_seq_k fun K47 hK47 => ?_
    refine wp_region_lit ?_
    refine q_is rfl rfl (does_move (u := (Fd x)) (ev rfl)) (by dsimp only [List.set]; try rfl) ?_
    refine seqd rfl rfl (does_float (.inr (.inr (.inr rfl))) (ev rfl) (ev rfl)) ?_; rintro _ w51 ⟨r48, rfl, h49, E50⟩
    have X52 := Ext.gr X45 E50
    show wpList _ _ _ _ (fr [(Fd x), (Fd y), Ud, Ud, (Bo false), v4, v5, v6, v7, v8, v9, v10, (Bo (β1 || β2)), Ud, Ud, Ud, Ud, Ud, Ud, Ud, Ud, v35, v36, v37, v38, v39, (Bo (β5 && β6)), (Fd x), (Fd r48), Ud, Ud, Ud, Ud, Ud, Ud, Ud, Ud]) _
    refine q_is rfl rfl (does_fcmp (.inr (.inr (.inr (.inr (.inl rfl))))) (ev rfl) (ev rfl)) (by dsimp only [List.set]; try rfl) ?_
    refine q_is rfl rfl (does_move (u := (Fd y)) (ev rfl)) (by dsimp only [List.set]; try rfl) ?_
    refine seqd rfl rfl (does_float (.inr (.inr (.inr rfl))) (ev rfl) (ev rfl)) ?_; rintro _ w56 ⟨r53, rfl, h54, E55⟩
    have X57 := Ext.gr X52 E55
    show wpList _ _ _ _ (fr [(Fd x), (Fd y), Ud, Ud, (Bo false), v4, v5, v6, v7, v8, v9, v10, (Bo (β1 || β2)), Ud, Ud, Ud, Ud, Ud, Ud, Ud, Ud, v35, v36, v37, v38, v39, (Bo (β5 && β6)), (Fd x), (Fd r48), (Bo (fcmp .gtr (ford .f64 (cf .f64 r48) (cf .f64 0)))), (Fd y), (Fd r53), Ud, Ud, Ud, Ud, Ud]) _
    refine q_is rfl rfl (does_fcmp (.inr (.inr (.inr (.inr (.inl rfl))))) (ev rfl) (ev rfl)) (by dsimp only [List.set]; try rfl) ?_
    refine q_is rfl rfl (does_beq (p := (fcmp .gtr (ford .f64 (cf .f64 r48) (cf .f64 0)))) (q := (fcmp .gtr (ford .f64 (cf .f64 r53) (cf .f64 0)))) Try.underlying4 (ev rfl) (ev rfl)) (by dsimp only [List.set]; try rfl) ?_
    refine q_is rfl rfl (does_assign (u := (Bo ((fcmp .gtr (ford .f64 (cf .f64 r48) (cf .f64 0))) == (fcmp .gtr (ford .f64 (cf .f64 r53) (cf .f64 0)))))) (ev rfl)) (by dsimp only [List.set]; try rfl) ?_
    refine wpList_nil (hK47 _ _ ?_)
    refine wp_ret ?_
    dsimp only [Exit.then, Exit.inBlock]
    refine ret_val (v := (Bo ((fcmp .gtr (ford .f64 (cf .f64 r48) (cf .f64 0))) == (fcmp .gtr (ford .f64 (cf .f64 r53) (cf .f64 0)))))) (res_T rfl (slot rfl)) X57 ?_
    try simp only [hβ1, hβ2, hβ5, hβ6, h49, h54] at c17 c46
    have x58 : (sameF (cf .f64 x) (cf .f64 y)) = ((fcmp .gtr (ford .f64 (cf .f64 r48) (cf .f64 0))) == (fcmp .gtr (ford .f64 (cf .f64 r53) (cf .f64 0)))) := by first | with_reducible rfl | (simp only [sameF, hβ1, hβ2, hβ5, hβ6, h49, h54, c17, c46]; done) | (simp [sameF, hβ1, hβ2, hβ5, hβ6, h49, h54, c17, c46]; done) | (revert c17 c46; simp +contextual [sameF, hβ1, hβ2, hβ5, hβ6, h49, h54]; done) | (rcases c17' with hh | hh <;> simp only [hh, sameF, hβ1, hβ2, hβ5, hβ6, h49, h54, c17, c46]; done) | (rcases c46' with hh | hh <;> simp only [hh, sameF, hβ1, hβ2, hβ5, hβ6, h49, h54, c17, c46]; done) | (rcases c46' with hh | hh <;> simp_all [sameF]; done) | (rcases c46' with hh | hh | hh <;> simp_all [sameF]; done) | (rcases c46' with hh | hh | hh | hh <;> simp_all [sameF]; done) | (simp_all [sameF]; done) | rfl
    exact (by first | rfl | rw [x58])
  have c46' := c46
  (try simp only [hβ1, hβ2, hβ5, hβ6] at c46')
  (try simp only [icmp, Bool.and_eq_true, Bool.or_eq_true, Bool.and_eq_false_iff, Bool.or_eq_false_iff, Bool.not_eq_true', Bool.not_eq_false', decide_eq_true_eq, decide_eq_false_iff_not, beq_iff_eq, bne_iff_ne, beq_eq_false_iff_ne, bne_eq_false_iff_eq] at c46')
  refine wp_skip (hK33 _ _ ?_)
  refine wp_seq_k fun K59 hK59 => ?_
  refine wp_region_lit ?_
  refine q_is rfl rfl (does_move (u := (Fd x)) (ev rfl)) (by dsimp only [List.set]; try rfl) ?_
  refine q_is rfl rfl (does_move (u := (Fd y)) (ev rfl)) (by dsimp only [List.set]; try rfl) ?_
  refine q_is rfl rfl (does_fcmp (.inl rfl) (ev rfl) (ev rfl)) (by dsimp only [List.set]; try rfl) ?_
  refine q_is rfl rfl (does_assign (u := (Bo (fcmp .eql (ford .f64 (cf .f64 x) (cf .f64 y))))) (ev rfl)) (by dsimp only [List.set]; try rfl) ?_
  refine wpList_nil (hK59 _ _ ?_)
  refine wp_ret ?_
  refine ret_val (v := (Bo (fcmp .eql (ford .f64 (cf .f64 x) (cf .f64 y))))) (res_T rfl (slot rfl)) X45 ?_
  try simp only [hβ1, hβ2, hβ5, hβ6] at c17 c46
  have x60 : (sameF (cf .f64 x) (cf .f64 y)) = (fcmp .eql (ford .f64 (cf .f64 x) (cf .f64 y))) := by first | with_reducible rfl | (simp only [sameF, hβ1, hβ2, hβ5, hβ6, c17, c46]; done) | (simp [sameF, hβ1, hβ2, hβ5, hβ6, c17, c46]; done) | (revert c17 c46; simp +contextual [sameF, hβ1, hβ2, hβ5, hβ6]; done) | (rcases c17' with hh | hh <;> simp only [hh, sameF, hβ1, hβ2, hβ5, hβ6, c17, c46]; done) | (rcases c46' with hh | hh <;> simp only [hh, sameF, hβ1, hβ2, hβ5, hβ6, c17, c46]; done) | (rcases c46' with hh | hh <;> simp_all [sameF]; done) | (rcases c46' with hh | hh | hh <;> simp_all [sameF]; done) | (rcases c46' with hh | hh | hh | hh <;> simp_all [sameF]; done) | (simp_all [sameF]; done) | rfl
  exact (by first | rfl | rw [x60])

/- laws.eqFloat32S -/
theorem c_laws_eqFloat32S (a : Value) (L_a : List Nat) (b : Value) (L_b : List Nat) (w : World) (hv_a : Sl RF 1 w a L_a) (hv_b : Sl RF 1 w b L_b) : Gives Try.prog 46 #[a, b] w (fun v w' => v = (Bo (sameL L_a L_b))) := by
  have hlen_a := Sl.len hv_a; obtain ⟨p_a, q_a, rfl⟩ := Sl.shape hv_a
  have hlen_b := Sl.len hv_b; obtain ⟨p_b, q_b, rfl⟩ := Sl.shape hv_b
  refine enter [(.slice p_a L_a.length q_a), (.slice p_b L_b.length q_b), Ud, Ud, Ud, Ud, Ud, Ud, Ud, Ud, Ud, Ud, Ud, Ud, Ud, Ud, Ud, Ud, Ud, Ud, Ud, Ud, Ud, Ud, Ud, Ud, Ud, Ud, Ud] Try.func46 rfl Try.ntmps46 rfl ?_
  refine wp_seq_k fun K1 hK1 => ?_
  refine wp_region_lit ?_
  refine q_is rfl rfl (does_assign (u := (Bo false)) (ev rfl)) (by dsimp only [List.set]; try rfl) ?_
  refine wpList_nil (hK1 _ _ ?_)
  refine wp_seq_k fun K2 hK2 => ?_
  refine wp_seq_k fun K3 hK3 => ?_
  refine wp_region_lit ?_
  refine q_is rfl rfl (does_move (u := (.slice p_a L_a.length q_a)) (ev rfl)) (by dsimp only [List.set]; try rfl) ?_
  refine q_is rfl rfl (does_len_slice Try.underlying22 (ev rfl)) (by dsimp only [List.set]; try rfl) ?_
  refine q_is rfl rfl (does_move (u := (.slice p_b L_b.length q_b)) (ev rfl)) (by dsimp only [List.set]; try rfl) ?_
  refine q_is rfl rfl (does_len_slice Try.underlying22 (ev rfl)) (by dsimp only [List.set]; try rfl) ?_
  refine q_is rfl rfl (does_icmp (p := (L_a.length : Int)) (q := (L_b.length : Int)) (.inr (.inl rfl)) (ev rfl) (ev rfl)) (by dsimp only [List.set]; try rfl) ?_
  refine wpList_nil (hK3 _ _ ?_)
  refine wp_cond_split (t := icmp .neq (L_a.length : Int) (L_b.length : Int)) (ev rfl) (fun c4 => ?_) (fun c4 => ?_)
  · have c4' := c4
    (try simp only [icmp, Bool.and_eq_true, Bool.or_eq_true, Bool.and_eq_false_iff, Bool.or_eq_false_iff, Bool.not_eq_true', Bool.not_eq_false', decide_eq_true_eq, decide_eq_false_iff_not, beq_iff_eq, bne_iff_ne, beq_eq_false_iff_ne, bne_eq_false_iff_eq] at c4')
    refine wp_seq_k fun K5 hK5 => ?_
    refine wp_region_lit ?_
    refine q_is rfl rfl (does_assign (u := (Bo false)) (ev rfl)) (by dsimp only [List.set]; try rfl) ?_
    refine wpList_nil (hK5 _ _ ?_)
    refine wp_ret ?_
    dsimp only [Exit.then, Exit.inBlock]
    refine ret_val (v := (Bo false)) (res_T rfl (slot rfl)) (Ext.refl w) ?_
    have x6 : (sameL L_a L_b) = false := by first | exact (sameL_len (by omega)) | exact (sameL_not (by omega) (by assumption) (by assumption) (by simp_all)) | exact (sameL_all (by omega) (by omega) hs)
    exact (by first | rfl | rw [x6])
  have c4' := c4
  (try simp only [icmp, Bool.and_eq_true, Bool.or_eq_true, Bool.and_eq_false_iff, Bool.or_eq_false_iff, Bool.not_eq_true', Bool.not_eq_false', decide_eq_true_eq, decide_eq_false_iff_not, beq_iff_eq, bne_iff_ne, beq_eq_false_iff_ne, bne_eq_false_iff_eq] at c4')
  refine wp_skip (hK2 _ _ ?_)
  refine wp_seq_k fun K7 hK7 => ?_
  refine wp_seq_k fun K8 hK8 => ?_
  refine wp_region_lit ?_
  refine q_is rfl rfl (does_assign (u := (Iv 0)) (ev rfl)) (by dsimp only [List.set]; try rfl) ?_
  refine wpList_nil (hK8 _ _ ?_)
  refine wp_block ?_
  refine loop_ghost (σ := Nat) (fun k a w' => ∃ u9 : Nat → Value, a = fr [(.slice p_a L_a.length q_a), (.slice p_b L_b.length q_b), Ud, Ud, (u9 4), (Iv (k : Int)), (.slice p_a L_a.length q_a), (Iv (L_a.length : Int)), (.slice p_b L_b.length q_b), (Iv (L_b.length : Int)), (Bo (icmp .neq (L_a.length : Int) (L_b.length : Int))), (u9 11), (u9 12), (u9 13), (u9 14), (u9 15), (u9 16), (u9 17), (u9 18), (u9 19), (u9 20), (u9 21), (u9 22), (u9 23), (u9 24), (u9 25), (u9 26), (u9 27), (u9 28)] ∧ Ext w w' ∧ (k ≤ L_a.length ∧ SameTo L_a L_b k)) (fun k => L_a.length - k) 0 ?_ ?_
  · refine ⟨fun t => (([(.slice p_a L_a.length q_a), (.slice p_b L_b.length q_b), Ud, Ud, (Bo false), (Iv 0), (.slice p_a L_a.length q_a), (Iv (L_a.length : Int)), (.slice p_b L_b.length q_b), (Iv (L_b.length : Int)), (Bo (icmp .neq (L_a.length : Int) (L_b.length : Int))), Ud, Ud, Ud, Ud, Ud, Ud, Ud, Ud, Ud, Ud, Ud, Ud, Ud, Ud, Ud, Ud, Ud, Ud] : List Value)[t]?).getD undef, rfl, Ext.refl _, ?_⟩
    exact ⟨Nat.zero_le _, SameTo.zero⟩
  · rintro k a w10 ⟨u9, rfl, E11, ⟨hk, hs⟩⟩
    have X13 := Ext.gr (Ext.refl w) E11
    refine wp_seq_k fun K14 hK14 => ?_
    refine wp_seq_k fun K15 hK15 => ?_
    refine wp_region_lit ?_
    refine q_is rfl rfl (does_move (u := (Iv (k : Int))) (ev rfl)) (by dsimp only [List.set]; try rfl) ?_
    refine q_is rfl rfl (does_move (u := (.slice p_a L_a.length q_a)) (ev rfl)) (by dsimp only [List.set]; try rfl) ?_
    refine q_is rfl rfl (does_len_slice Try.underlying22 (ev rfl)) (by dsimp only [List.set]; try rfl) ?_
    refine q_is rfl rfl (does_icmp (p := (k : Int)) (q := (L_a.length : Int)) (.inr (.inr (.inl rfl))) (ev rfl) (ev rfl)) (by dsimp only [List.set]; try rfl) ?_
    refine wpList_nil (hK15 _ _ ?_)
    refine wp_cond_split (t := icmp .lss (k : Int) (L_a.length : Int)) (ev rfl) (fun c16 => ?_) (fun c16 => ?_)
    · have c16' := c16
      (try simp only [icmp, Bool.and_eq_true, Bool.or_eq_true, Bool.and_eq_false_iff, Bool.or_eq_false_iff, Bool.not_eq_true', Bool.not_eq_false', decide_eq_true_eq, decide_eq_false_iff_not, beq_iff_eq, bne_iff_ne, beq_eq_false_iff_ne, bne_eq_false_iff_eq] at c16')
      refine wp_skip (hK14 _ _ ?_)
      refine wp_seq_k fun K17 hK17 => ?_
      refine wp_block ?_
      refine wp_seq_k fun K18 hK18 => ?_
      obtain ⟨el1, hel1⟩ : ∃ e, L_a[k]? = some e := ⟨_, List.getElem?_eq_getElem (by omega)⟩
      obtain ⟨el2, hel2⟩ : ∃ e, L_b[k]? = some e := ⟨_, List.getElem?_eq_getElem (by omega)⟩
      obtain ⟨β1, hβ1⟩ : ∃ b : Bool, b = (sameF (fwid el1) (fwid el2)) := ⟨_, rfl⟩
      refine region_draw (
        [Fact.pure [] (fun v => v = (.slice p_a L_a.length q_a)),
    Fact.pure [] (fun v => v = (Iv (k : Int))),
    Fact.mem [17, 18] (fun v w' => PtrR RF w' v el1) (by intro v w1 w2 hx h; exact h.ext RF.mono hx),
    Fact.pure [19] (fun v => ∃ r_1 : Nat, v = (Fl r_1) ∧ cf .f32 r_1 = el1),
    Fact.pure [20] (fun v => ∃ r_1 : Nat, v = (Fd r_1) ∧ cf .f64 r_1 = fwid el1),
    Fact.pure [] (fun v => v = (.slice p_b L_b.length q_b)),
    Fact.pure [] (fun v => v = (Iv (k : Int))),
    Fact.mem [22, 23] (fun v w' => PtrR RF w' v el2) (by intro v w1 w2 hx h; exact h.ext RF.mono hx),
    Fact.pure [24] (fun v => ∃ r_1 : Nat, v = (Fl r_1) ∧ cf .f32 r_1 = el2),
    Fact.pure [25] (fun v => ∃ r_1 : Nat, v = (Fd r_1) ∧ cf .f64 r_1 = fwid el2),
    Fact.pure [21, 26] (fun v => v = (Bo β1)),
    Fact.pure [27] (fun v => v = (Bo (!β1)))]) mixed (by kernel_rfl) (by intro _ _ d _ _ h; cases d <;> exact h) ?_
      obtain ⟨w19, hw21⟩ : ∃ w', w' = World.drew w10 := ⟨_, rfl⟩; rw [← hw21]; have E20 : Ext w10 w19 := by rw [hw21]; exact Ext.draw _
      clear hw21
      have X22 := Ext.gr X13 E20
      refine RW_d _ rfl (fun v => by dsimp only [List.set]; try rfl) (fun u hu hF => ?_) (fun v23 => ?_)
      · clear hF
        refine doesG_un rfl ?_
        refine (does_move (u := (.slice p_a L_a.length q_a)) (ev rfl)).mono ?_; rintro _ _ ⟨rfl, rfl⟩
        exact ⟨rfl, Ext.refl _⟩
      refine RW_d _ rfl (fun v => by dsimp only [List.set]; try rfl) (fun u hu hF => ?_) (fun v24 => ?_)
      · clear hF
        refine doesG_un rfl ?_
        refine (does_move (u := (Iv (k : Int))) (ev rfl)).mono ?_; rintro _ _ ⟨rfl, rfl⟩
        exact ⟨rfl, Ext.refl _⟩
      refine RW_d _ rfl (fun v => by dsimp only [List.set]; try rfl) (fun u hu hF => ?_) (fun v25 => ?_)
      · have h17_ : v23 = (.slice p_a L_a.length q_a) := hF.1
        have h18_ : v24 = (Iv (k : Int)) := hF.2.1
        clear hF
        refine doesG_un rfl ?_
        obtain rfl := h17_
        obtain rfl := h18_
        refine (does_indexSl (R := RF) (i := (k : Int)) (xs := L_a) (e := el1) Try.underlying22 Try.sizeOf62 (ev rfl) (ev rfl) (Sl.ext (Sl.ext hv_a RF.mono (Ext.gr X13 E20)) RF.mono hu) (by omega) hel1).mono ?_; rintro v u' ⟨b, of, cs, hv, hc, hR, hu'⟩; subst hu'
        exact ⟨⟨b, of, cs, hv, hc, hR⟩, Ext.refl _⟩
      refine RW_d _ rfl (fun v => by dsimp only [List.set]; try rfl) (fun u hu hF => ?_) (fun v26 => ?_)
      · have h19_ : PtrR RF u v25 el1 := hF.1
        clear hF
        refine doesG_un rfl ?_
        obtain ⟨b19_, o19_, _, rfl, hc19_, ⟨r19_1, rfl, h19_2⟩⟩ := h19_
        refine (does_load (u := (Fl r19_1)) (ev rfl) Try.isAgg62 (Cells.at hc19_ 0 rfl)).mono ?_; rintro _ _ ⟨rfl, rfl⟩
        exact ⟨⟨r19_1, rfl, (by simp only [h19_2])⟩, Ext.refl _⟩
      refine RW_d _ rfl (fun v => by dsimp only [List.set]; try rfl) (fun u hu hF => ?_) (fun v27 => ?_)
      · have h20_ : ∃ r_1 : Nat, v26 = (Fl r_1) ∧ cf .f32 r_1 = el1 := hF.1
        clear hF
        refine doesG_un rfl ?_
        obtain ⟨r20_1, rfl, h20_2⟩ := h20_
        refine (does_widen Try.underlying62 Try.underlying124 (ev rfl)).mono ?_; rintro _ _ ⟨r, rfl, hr, hx⟩
        exact ⟨⟨r, rfl, (by simp only [hr, h20_2])⟩, hx⟩
      refine RW_d _ rfl (fun v => by dsimp only [List.set]; try rfl) (fun u hu hF => ?_) (fun v28 => ?_)
      · clear hF
        refine doesG_un rfl ?_
        refine (does_move (u := (.slice p_b L_b.length q_b)) (ev rfl)).mono ?_; rintro _ _ ⟨rfl, rfl⟩
        exact ⟨rfl, Ext.refl _⟩
      refine RW_d _ rfl (fun v => by dsimp only [List.set]; try rfl) (fun u hu hF => ?_) (fun v29 => ?_)
      · clear hF
        refine doesG_un rfl ?_
        refine (does_move (u := (Iv (k : Int))) (ev rfl)).mono ?_; rintro _ _ ⟨rfl, rfl⟩
        exact ⟨rfl, Ext.refl _⟩
      refine RW_d _ rfl (fun v => by dsimp only [List.set]; try rfl) (fun u hu hF => ?_) (fun v30 => ?_)
      · have h22_ : v28 = (.slice p_b L_b.length q_b) := hF.1
        have h23_ : v29 = (Iv (k : Int)) := hF.2.1
        clear hF
        refine doesG_un rfl ?_
        obtain rfl := h22_
        obtain rfl := h23_
        refine (does_indexSl (R := RF) (i := (k : Int)) (xs := L_b) (e := el2) Try.underlying22 Try.sizeOf62 (ev rfl) (ev rfl) (Sl.ext (Sl.ext hv_b RF.mono (Ext.gr X13 E20)) RF.mono hu) (by omega) hel2).mono ?_; rintro v u' ⟨b, of, cs, hv, hc, hR, hu'⟩; subst hu'
        exact ⟨⟨b, of, cs, hv, hc, hR⟩, Ext.refl _⟩
      refine RW_d _ rfl (fun v => by dsimp only [List.set]; try rfl) (fun u hu hF => ?_) (fun v31 => ?_)
      · have h24_ : PtrR RF u v30 el2 := hF.1
        clear hF
        refine doesG_un rfl ?_
        obtain ⟨b24_, o24_, _, rfl, hc24_, ⟨r24_1, rfl, h24_2⟩⟩ := h24_
        refine (does_load (u := (Fl r24_1)) (ev rfl) Try.isAgg62 (Cells.at hc24_ 0 rfl)).mono ?_; rintro _ _ ⟨rfl, rfl⟩
        exact ⟨⟨r24_1, rfl, (by simp only [h24_2])⟩, Ext.refl _⟩
      refine RW_d _ rfl (fun v => by dsimp only [List.set]; try rfl) (fun u hu hF => ?_) (fun v32 => ?_)
      · have h25_ : ∃ r_1 : Nat, v31 = (Fl r_1) ∧ cf .f32 r_1 = el2 := hF.1
        clear hF
        refine doesG_un rfl ?_
        obtain ⟨r25_1, rfl, h25_2⟩ := h25_
        refine (does_widen Try.underlying62 Try.underlying124 (ev rfl)).mono ?_; rintro _ _ ⟨r, rfl, hr, hx⟩
        exact ⟨⟨r, rfl, (by simp only [hr, h25_2])⟩, hx⟩
      refine RW_d _ rfl (fun v => by dsimp only [List.set]; try rfl) (fun u hu hF => ?_) (fun v33 => ?_)
      · have h21_ : ∃ r_1 : Nat, v27 = (Fd r_1) ∧ cf .f64 r_1 = fwid el1 := hF.1
        have h26_ : ∃ r_1 : Nat, v32 = (Fd r_1) ∧ cf .f64 r_1 = fwid el2 := hF.2.1
        clear hF
        refine doesG_un rfl ?_
        obtain ⟨r21_1, rfl, h21_2⟩ := h21_
        obtain ⟨r26_1, rfl, h26_2⟩ := h26_
        refine (does_call (args := #[(Fd r21_1), (Fd r26_1)]) cal72 (evs rfl) (c_laws_sameFloat r21_1 r26_1 _)).mono ?_; rintro v u' ⟨hx, hv⟩
        exact ⟨hv.trans (by simp only [hβ1, h21_2, h26_2]), hx⟩
      refine RW_d _ rfl (fun v => by dsimp only [List.set]; try rfl) (fun u hu hF => ?_) (fun v34 => ?_)
      · have h27_ : v33 = (Bo β1) := hF.1
        clear hF
        refine doesG_un rfl ?_
        obtain rfl := h27_
        refine (does_not (ev rfl)).mono ?_; rintro _ _ ⟨rfl, rfl⟩
        exact ⟨rfl, Ext.refl _⟩
      refine RW_fin ?_; intro w35 E36 hP37
      obtain ⟨⟨⟨⟨⟨⟨⟨⟨⟨⟨⟨⟨-, -⟩, -⟩, -⟩, -⟩, -⟩, -⟩, -⟩, -⟩, -⟩, -⟩, -⟩, q38⟩ := hP37
      have X39 := Ext.gr X22 E36
      have q38 : v34 = (Bo (!β1)) := q38
      obtain rfl := q38
      show wpList _ _ _ _ (fr [(.slice p_a L_a.length q_a), (.slice p_b L_b.length q_b), Ud, Ud, (u9 4), (Iv (k : Int)), (.slice p_a L_a.length q_a), (Iv (L_a.length : Int)), (.slice p_b L_b.length q_b), (Iv (L_b.length : Int)), (Bo (icmp .neq (L_a.length : Int) (L_b.length : Int))), (Iv (k : Int)), (.slice p_a L_a.length q_a), (Iv (L_a.length : Int)), (Bo (icmp .lss (k : Int) (L_a.length : Int))), (u9 15), (u9 16), v23, v24, v25, v26, v27, v28, v29, v30, v31, v32, v33, (Bo (!β1))]) _
      refine wpList_nil (hK18 _ _ ?_)
      refine wp_cond_split (t := !β1) (ev rfl) (fun c40 => ?_) (fun c40 => ?_)
      · rw [Bool.not_eq_true'] at c40
        have c40' := c40
        (try simp only [hβ1] at c40')
        (try simp only [icmp, Bool.and_eq_true, Bool.or_eq_true, Bool.and_eq_false_iff, Bool.or_eq_false_iff, Bool.not_eq_true', Bool.not_eq_false', decide_eq_true_eq, decide_eq_false_iff_not, beq_iff_eq, bne_iff_ne, beq_eq_false_iff_ne, bne_eq_false_iff_eq] at c40')
        refine wp_seq_k fun K41 hK41 => ?_
        refine wp_region_lit ?_
        refine q_is rfl rfl (does_assign (u := (Bo false)) (ev rfl)) (by dsimp only [List.set]; try rfl) ?_
        refine wpList_nil (hK41 _ _ ?_)
        refine wp_ret ?_
        dsimp only [Exit.then, Exit.inBlock]
        refine ret_val (v := (Bo false)) (res_T rfl (slot rfl)) X39 ?_
        try simp only [hβ1, hel1, hel2] at c4 c16 c40
        have x42 : (sameL L_a L_b) = false := by first | exact (sameL_len (by omega)) | exact (sameL_not (by omega) (by assumption) (by assumption) (by simp_all)) | exact (sameL_all (by omega) (by omega) hs)
        exact (by first | rfl | rw [x42])
      rw [Bool.not_eq_false'] at c40
      have c40' := c40
      (try simp only [hβ1] at c40')
      (try simp only [icmp, Bool.and_eq_true, Bool.or_eq_true, Bool.and_eq_false_iff, Bool.or_eq_false_iff, Bool.not_eq_true', Bool.not_eq_false', decide_eq_true_eq, decide_eq_false_iff_not, beq_iff_eq, bne_iff_ne, beq_eq_false_iff_ne, bne_eq_false_iff_eq] at c40')
      refine wp_skip (hK17 _ _ ?_)
      refine wp_region_lit ?_
      refine q_is rfl rfl (does_move (u := (Iv (k : Int))) (ev rfl)) (by dsimp only [List.set]; try rfl) ?_
      refine q_is rfl rfl (does_iarith (p := (k : Int)) (q := 1) (r := (k : Int) + 1) (ev rfl) (ev rfl) (.inl ⟨rfl, (in_i64 (by omega) (by omega)).symm⟩)) (by dsimp only [List.set]; try rfl) ?_
      refine q_is rfl rfl (does_assign (u := (Iv ((k : Int) + 1))) (ev rfl)) (by dsimp only [List.set]; try rfl) ?_
      refine wpList_nil ?_
      refine ⟨k + 1, ⟨fun t => (([(.slice p_a L_a.length q_a), (.slice p_b L_b.length q_b), Ud, Ud, (u9 4), (Iv ((k : Int) + 1)), (.slice p_a L_a.length q_a), (Iv (L_a.length : Int)), (.slice p_b L_b.length q_b), (Iv (L_b.length : Int)), (Bo (icmp .neq (L_a.length : Int) (L_b.length : Int))), (Iv (k : Int)), (.slice p_a L_a.length q_a), (Iv (L_a.length : Int)), (Bo (icmp .lss (k : Int) (L_a.length : Int))), (Iv (k : Int)), (Iv ((k : Int) + 1)), v23, v24, v25, v26, v27, v28, v29, v30, v31, v32, v33, (Bo (!β1))] : List Value)[t]?).getD undef, ?_, (Ext.gr (Ext.gr E11 E20) E36), ?_⟩, ?_⟩
      · first | rfl | (simp only [Nat.cast_add, Nat.cast_one, Int.natCast_add, Int.natCast_one]; rfl)
      · exact ⟨by omega, SameTo.step hs (by assumption) (by assumption) (by simp_all)⟩
      · omega
    have c16' := c16
    (try simp only [icmp, Bool.and_eq_true, Bool.or_eq_true, Bool.and_eq_false_iff, Bool.or_eq_false_iff, Bool.not_eq_true', Bool.not_eq_false', decide_eq_true_eq, decide_eq_false_iff_not, beq_iff_eq, bne_iff_ne, beq_eq_false_iff_ne, bne_eq_false_iff_eq] at c16')
    refine wp_exit ?_
    refine hK7 _ _ ?_
    refine wp_seq_k fun K43 hK43 => ?_
    refine wp_region_lit ?_
    refine q_is rfl rfl (does_assign (u := (Bo true)) (ev rfl)) (by dsimp only [List.set]; try rfl) ?_
    refine wpList_nil (hK43 _ _ ?_)
    refine wp_ret ?_
    refine ret_val (v := (Bo true)) (res_T rfl (slot rfl)) X13 ?_
    have x44 : (sameL L_a L_b) = true := by first | exact (sameL_len (by omega)) | exact (sameL_not (by omega) (by assumption) (by assumption) (by simp_all)) | exact (sameL_all (by omega) (by omega) hs)
    exact (by first | rfl | rw [x44])

/- laws.eqNode -/
theorem c_laws_eqNode (a : List Value) (A_a : NodeT) (b : List Value) (A_b : NodeT) (w : World) (hv_a : RNodeT w A_a a) (hv_b : RNodeT w A_b b) : Gives Try.prog 14 #[(.agg a.toArray), (.agg b.toArray)] w (fun v w' => v = (Bo (sameNd A_a A_b))) := by
  obtain ⟨y1, rfl, h2⟩ := hv_a
  obtain ⟨y3, rfl, h4⟩ := hv_b
  have hs7 := h2; have hs7l := Sl.len h2; obtain ⟨p5, q6, rfl⟩ := Sl.shape h2
  have hs10 := h4; have hs10l := Sl.len h4; obtain ⟨p8, q9, rfl⟩ := Sl.shape h4
  refine enter [(.agg #[(Iv A_a.kind), (Iv A_a.a), (Iv A_a.b), (.slice p5 A_a.nums.length q6)]), (.agg #[(Iv A_b.kind), (Iv A_b.a), (Iv A_b.b), (.slice p8 A_b.nums.length q9)]), Ud, Ud, Ud, Ud, Ud, Ud, Ud, Ud, Ud, Ud, Ud, Ud, Ud, Ud, Ud, Ud, Ud, Ud, Ud, Ud, Ud, Ud, Ud, Ud] Try.func14 rfl Try.ntmps14 rfl ?_
  refine wp_seq_k fun K11 hK11 => ?_
  refine wp_region_lit ?_
  refine seqd rfl rfl (does_box (u := (.agg #[(Iv A_a.kind), (Iv A_a.a), (Iv A_a.b), (.slice p5 A_a.nums.length q6)])) (ev rfl)) ?_; rintro _ w16 ⟨b12, rfl, hb13, hB14, E15⟩
  have g17 : w.heap.size ≤ b12 := Nat.le_trans (Below.size (Ext.refl w)) hb13
  change Blk _ _ [(Iv A_a.kind), (Iv A_a.a), (Iv A_a.b), (.slice p5 A_a.nums.length q6)] at hB14
  have X18 := Ext.gr (Ext.refl w) E15
  show wpList _ _ _ _ (fr [(.agg #[(Iv A_a.kind), (Iv A_a.a), (Iv A_a.b), (.slice p5 A_a.nums.length q6)]), (.agg #[(Iv A_b.kind), (Iv A_b.a), (Iv A_b.b), (.slice p8 A_b.nums.length q9)]), (Pt b12 0), Ud, Ud, Ud, Ud, Ud, Ud, Ud, Ud, Ud, Ud, Ud, Ud, Ud, Ud, Ud, Ud, Ud, Ud, Ud, Ud, Ud, Ud, Ud]) _
  refine seqd rfl rfl (does_box (u := (.agg #[(Iv A_b.kind), (Iv A_b.a), (Iv A_b.b), (.slice p8 A_b.nums.length q9)])) (ev rfl)) ?_; rintro _ w23 ⟨b19, rfl, hb20, hB21, E22⟩
  have n24 : b12 < b19 := Nat.lt_of_lt_of_le (Blk.lt hB14) hb20
  have g25 : w.heap.size ≤ b19 := Nat.le_trans (Below.size X18) hb20
  change Blk _ _ [(Iv A_b.kind), (Iv A_b.a), (Iv A_b.b), (.slice p8 A_b.nums.length q9)] at hB21
  have X26 := Ext.gr X18 E22
  show wpList _ _ _ _ (fr [(.agg #[(Iv A_a.kind), (Iv A_a.a), (Iv A_a.b), (.slice p5 A_a.nums.length q6)]), (.agg #[(Iv A_b.kind), (Iv A_b.a), (Iv A_b.b), (.slice p8 A_b.nums.length q9)]), (Pt b12 0), (Pt b19 0), Ud, Ud, Ud, Ud, Ud, Ud, Ud, Ud, Ud, Ud, Ud, Ud, Ud, Ud, Ud, Ud, Ud, Ud, Ud, Ud, Ud, Ud]) _
  refine q_is rfl rfl (does_assign (u := (Bo false)) (ev rfl)) (by dsimp only [List.set]; try rfl) ?_
  refine wpList_nil (hK11 _ _ ?_)
  refine wp_seq_k fun K27 hK27 => ?_
  refine wp_seq_k fun K28 hK28 => ?_
  refine wp_region_lit ?_
  refine q_is rfl rfl (does_fieldAddr (ev rfl) fa27_0) (by dsimp only [List.set]; try rfl) ?_
  refine q_is rfl rfl (does_load (u := (Iv A_a.kind)) (ev rfl) Try.isAgg2 (Cells.at (Blk.cells (hB14.ext E22)) 0 rfl)) (by dsimp only [List.set]; try rfl) ?_
  refine q_is rfl rfl (does_fieldAddr (ev rfl) fa27_0) (by dsimp only [List.set]; try rfl) ?_
  refine q_is rfl rfl (does_load (u := (Iv A_b.kind)) (ev rfl) Try.isAgg2 (Cells.at (Blk.cells hB21) 0 rfl)) (by dsimp only [List.set]; try rfl) ?_
  refine q_is rfl rfl (does_icmp (p := A_a.kind) (q := A_b.kind) (.inr (.inl rfl)) (ev rfl) (ev rfl)) (by dsimp only [List.set]; try rfl) ?_
  refine wpList_nil (hK28 _ _ ?_)
  refine wp_cond_split (t := icmp .neq A_a.kind A_b.kind) (ev rfl) (fun c29 => ?_) (fun c29 => ?_)
  · have c29' := c29
    (try simp only [icmp, Bool.and_eq_true, Bool.or_eq_true, Bool.and_eq_false_iff, Bool.or_eq_false_iff, Bool.not_eq_true', Bool.not_eq_false', decide_eq_true_eq, decide_eq_false_iff_not, beq_iff_eq, bne_iff_ne, beq_eq_false_iff_ne, bne_eq_false_iff_eq] at c29')
    refine wp_seq_k fun K30 hK30 => ?_
    refine wp_region_lit ?_
    refine q_is rfl rfl (does_assign (u := (Bo false)) (ev rfl)) (by dsimp only [List.set]; try rfl) ?_
    refine wpList_nil (hK30 _ _ ?_)
    refine wp_ret ?_
    dsimp only [Exit.then, Exit.inBlock]
    refine ret_val (v := (Bo false)) (res_T rfl (slot rfl)) X26 ?_
    have x31 : (sameNd A_a A_b) = false := by first | with_reducible rfl | (simp only [sameNd, icmp, c29]; done) | (simp [sameNd, icmp, c29]; done) | (revert c29; simp +contextual [sameNd, icmp]; done) | (rcases c29' with hh | hh <;> simp only [hh, sameNd, icmp, c29]; done) | (rcases c29' with hh | hh <;> simp_all [sameNd, icmp]; done) | (rcases c29' with hh | hh | hh <;> simp_all [sameNd, icmp]; done) | (rcases c29' with hh | hh | hh | hh <;> simp_all [sameNd, icmp]; done) | (simp_all [sameNd, icmp]; done) | rfl
    exact (by first | rfl | rw [x31])
  have c29' := c29
  (try simp only [icmp, Bool.and_eq_true, Bool.or_eq_true, Bool.and_eq_false_iff, Bool.or_eq_false_iff, Bool.not_eq_true', Bool.not_eq_false', decide_eq_true_eq, decide_eq_false_iff_not, beq_iff_eq, bne_iff_ne, beq_eq_false_iff_ne, bne_eq_false_iff_eq] at c29')
  refine wp_skip (hK27 _ _ ?_)
  refine wp_seq_k fun K32 hK32 => ?_
  refine wp_seq_k fun K33 hK33 => ?_
  refine wp_region_lit ?_
  refine q_is rfl rfl (does_fieldAddr (ev rfl) fa27_1) (by dsimp only [List.set]; try rfl) ?_
  refine q_is rfl rfl (does_load (u := (Iv A_a.a)) (ev rfl) Try.isAgg2 (Cells.at (Blk.cells (hB14.ext E22)) 1 rfl)) (by dsimp only [List.set]; try rfl) ?_
  refine q_is rfl rfl (does_fieldAddr (ev rfl) fa27_1) (by dsimp only [List.set]; try rfl) ?_
  refine q_is rfl rfl (does_load (u := (Iv A_b.a)) (ev rfl) Try.isAgg2 (Cells.at (Blk.cells hB21) 1 rfl)) (by dsimp only [List.set]; try rfl) ?_
  refine q_is rfl rfl (does_icmp (p := A_a.a) (q := A_b.a) (.inr (.inl rfl)) (ev rfl) (ev rfl)) (by dsimp only [List.set]; try rfl) ?_
  refine wpList_nil (hK33 _ _ ?_)
  refine wp_cond_split (t := icmp .neq A_a.a A_b.a) (ev rfl) (fun c34 => ?_) (fun c34 => ?_)
  · have c34' := c34
    (try simp only [icmp, Bool.and_eq_true, Bool.or_eq_true, Bool.and_eq_false_iff, Bool.or_eq_false_iff, Bool.not_eq_true', Bool.not_eq_false', decide_eq_true_eq, decide_eq_false_iff_not, beq_iff_eq, bne_iff_ne, beq_eq_false_iff_ne, bne_eq_false_iff_eq] at c34')
    refine wp_seq_k fun K35 hK35 => ?_
    refine wp_region_lit ?_
    refine q_is rfl rfl (does_assign (u := (Bo false)) (ev rfl)) (by dsimp only [List.set]; try rfl) ?_
    refine wpList_nil (hK35 _ _ ?_)
    refine wp_ret ?_
    dsimp only [Exit.then, Exit.inBlock]
    refine ret_val (v := (Bo false)) (res_T rfl (slot rfl)) X26 ?_
    have x36 : (sameNd A_a A_b) = false := by first | with_reducible rfl | (simp only [sameNd, icmp, c29, c34]; done) | (simp [sameNd, icmp, c29, c34]; done) | (revert c29 c34; simp +contextual [sameNd, icmp]; done) | (rcases c29' with hh | hh <;> simp only [hh, sameNd, icmp, c29, c34]; done) | (rcases c34' with hh | hh <;> simp only [hh, sameNd, icmp, c29, c34]; done) | (rcases c34' with hh | hh <;> simp_all [sameNd, icmp]; done) | (rcases c34' with hh | hh | hh <;> simp_all [sameNd, icmp]; done) | (rcases c34' with hh | hh | hh | hh <;> simp_all [sameNd, icmp]; done) | (simp_all [sameNd, icmp]; done) | rfl
    exact (by first | rfl | rw [x36])
  have c34' := c34
  (try simp only [icmp, Bool.and_eq_true, Bool.or_eq_true, Bool.and_eq_false_iff, Bool.or_eq_false_iff, Bool.not_eq_true', Bool.not_eq_false', decide_eq_true_eq, decide_eq_false_iff_not, beq_iff_eq, bne_iff_ne, beq_eq_false_iff_ne, bne_eq_false_iff_eq] at c34')
  refine wp_skip (hK32 _ _ ?_)
  refine wp_seq_k fun K37 hK37 => ?_
  refine wp_seq_k fun K38 hK38 => ?_
  refine wp_region_lit ?_
  refine q_is rfl rfl (does_fieldAddr (ev rfl) fa27_2) (by dsimp only [List.set]; try rfl) ?_
  refine q_is rfl rfl (does_load (u := (Iv A_a.b)) (ev rfl) Try.isAgg2 (Cells.at (Blk.cells (hB14.ext E22)) 2 rfl)) (by dsimp only [List.set]; try rfl) ?_
  refine q_is rfl rfl (does_fieldAddr (ev rfl) fa27_2) (by dsimp only [List.set]; try rfl) ?_
  refine q_is rfl rfl (does_load (u := (Iv A_b.b)) (ev rfl) Try.isAgg2 (Cells.at (Blk.cells hB21) 2 rfl)) (by dsimp only [List.set]; try rfl) ?_
  refine q_is rfl rfl (does_icmp (p := A_a.b) (q := A_b.b) (.inr (.inl rfl)) (ev rfl) (ev rfl)) (by dsimp only [List.set]; try rfl) ?_
  refine wpList_nil (hK38 _ _ ?_)
  refine wp_cond_split (t := icmp .neq A_a.b A_b.b) (ev rfl) (fun c39 => ?_) (fun c39 => ?_)
  · have c39' := c39
    (try simp only [icmp, Bool.and_eq_true, Bool.or_eq_true, Bool.and_eq_false_iff, Bool.or_eq_false_iff, Bool.not_eq_true', Bool.not_eq_false', decide_eq_true_eq, decide_eq_false_iff_not, beq_iff_eq, bne_iff_ne, beq_eq_false_iff_ne, bne_eq_false_iff_eq] at c39')
    refine wp_seq_k fun K40 hK40 => ?_
    refine wp_region_lit ?_
    refine q_is rfl rfl (does_assign (u := (Bo false)) (ev rfl)) (by dsimp only [List.set]; try rfl) ?_
    refine wpList_nil (hK40 _ _ ?_)
    refine wp_ret ?_
    dsimp only [Exit.then, Exit.inBlock]
    refine ret_val (v := (Bo false)) (res_T rfl (slot rfl)) X26 ?_
    have x41 : (sameNd A_a A_b) = false := by first | with_reducible rfl | (simp only [sameNd, icmp, c29, c34, c39]; done) | (simp [sameNd, icmp, c29, c34, c39]; done) | (revert c29 c34 c39; simp +contextual [sameNd, icmp]; done) | (rcases c29' with hh | hh <;> simp only [hh, sameNd, icmp, c29, c34, c39]; done) | (rcases c34' with hh | hh <;> simp only [hh, sameNd, icmp, c29, c34, c39]; done) | (rcases c39' with hh | hh <;> simp only [hh, sameNd, icmp, c29, c34, c39]; done) | (rcases c39' with hh | hh <;> simp_all [sameNd, icmp]; done) | (rcases c39' with hh | hh | hh <;> simp_all [sameNd, icmp]; done) | (rcases c39' with hh | hh | hh | hh <;> simp_all [sameNd, icmp]; done) | (simp_all [sameNd, icmp]; done) | rfl
    exact (by first | rfl | rw [x41])
  have c39' := c39
  (try simp only [icmp, Bool.and_eq_true, Bool.or_eq_true, Bool.and_eq_false_iff, Bool.or_eq_false_iff, Bool.not_eq_true', Bool.not_eq_false', decide_eq_true_eq, decide_eq_false_iff_not, beq_iff_eq, bne_iff_ne, beq_eq_false_iff_ne, bne_eq_false_iff_eq] at c39')
  refine wp_skip (hK37 _ _ ?_)
  refine wp_seq_k fun K42 hK42 => ?_
  refine wp_seq_k fun K43 hK43 => ?_
  refine wp_region_lit ?_
  refine q_is rfl rfl (does_fieldAddr (ev rfl) fa27_3) (by dsimp only [List.set]; try rfl) ?_
  refine q_is rfl rfl (does_load (u := (.slice p5 A_a.nums.length q6)) (ev rfl) Try.isAgg22 (Cells.at (Blk.cells (hB14.ext E22)) 3 rfl)) (by dsimp only [List.set]; try rfl) ?_
  refine q_is rfl rfl (does_fieldAddr (ev rfl) fa27_3) (by dsimp only [List.set]; try rfl) ?_
  refine q_is rfl rfl (does_load (u := (.slice p8 A_b.nums.length q9)) (ev rfl) Try.isAgg22 (Cells.at (Blk.cells hB21) 3 rfl)) (by dsimp only [List.set]; try rfl) ?_
  refine seqd rfl rfl (does_call (args := #[(.slice p5 A_a.nums.length q6), (.slice p8 A_b.nums.length q9)]) cal46 (evs rfl) (c_laws_eqFloat32S (.slice p5 A_a.nums.length q6) A_a.nums (.slice p8 A_b.nums.length q9) A_b.nums _ (Sl.ext hs7 RF.mono X26) (Sl.ext hs10 RF.mono X26))) ?_; rintro _ w45 ⟨E44, rfl⟩
  have X46 := Ext.gr X26 E44
  show wpList _ _ _ _ (fr [(.agg #[(Iv A_a.kind), (Iv A_a.a), (Iv A_a.b), (.slice p5 A_a.nums.length q6)]), (.agg #[(Iv A_b.kind), (Iv A_b.a), (Iv A_b.b), (.slice p8 A_b.nums.length q9)]), (Pt b12 0), (Pt b19 0), (Bo false), (Pt b12 0), (Iv A_a.kind), (Pt b19 0), (Iv A_b.kind), (Bo (icmp .neq A_a.kind A_b.kind)), (Pt b12 1), (Iv A_a.a), (Pt b19 1), (Iv A_b.a), (Bo (icmp .neq A_a.a A_b.a)), (Pt b12 2), (Iv A_a.b), (Pt b19 2), (Iv A_b.b), (Bo (icmp .neq A_a.b A_b.b)), (Pt b12 3), (.slice p5 A_a.nums.length q6), (Pt b19 3), (.slice p8 A_b.nums.length q9), (Bo (sameL A_a.nums A_b.nums)), Ud]) _
  refine q_is rfl rfl (does_not (ev rfl)) (by dsimp only [List.set]; try rfl) ?_
  refine wpList_nil (hK43 _ _ ?_)
  refine wp_cond_split (t := !(sameL A_a.nums A_b.nums)) (ev rfl) (fun c47 => ?_) (fun c47 => ?_)
  · rw [Bool.not_eq_true'] at c47
    have c47' := c47
    refine wp_seq_k fun K48 hK48 => ?_
    refine wp_region_lit ?_
    refine q_is rfl rfl (does_assign (u := (Bo false)) (ev rfl)) (by dsimp only [List.set]; try rfl) ?_
    refine wpList_nil (hK48 _ _ ?_)
    refine wp_ret ?_
    dsimp only [Exit.then, Exit.inBlock]
    refine ret_val (v := (Bo false)) (res_T rfl (slot rfl)) X46 ?_
    have x49 : (sameNd A_a A_b) = false := by first | with_reducible rfl | (simp only [sameNd, icmp, c29, c34, c39, c47]; done) | (simp [sameNd, icmp, c29, c34, c39, c47]; done) | (revert c29 c34 c39 c47; simp +contextual [sameNd, icmp]; done) | (rcases c29' with hh | hh <;> simp only [hh, sameNd, icmp, c29, c34, c39, c47]; done) | (rcases c34' with hh | hh <;> simp only [hh, sameNd, icmp, c29, c34, c39, c47]; done) | (rcases c39' with hh | hh <;> simp only [hh, sameNd, icmp, c29, c34, c39, c47]; done) | (rcases c47' with hh | hh <;> simp only [hh, sameNd, icmp, c29, c34, c39, c47]; done) | (rcases c47' with hh | hh <;> simp_all [sameNd, icmp]; done) | (rcases c47' with hh | hh | hh <;> simp_all [sameNd, icmp]; done) | (rcases c47' with hh | hh | hh | hh <;> simp_all [sameNd, icmp]; done) | (simp_all [sameNd, icmp]; done) | rfl
    exact (by first | rfl | rw [x49])
  rw [Bool.not_eq_false'] at c47
  have c47' := c47
  refine wp_skip (hK42 _ _ ?_)
  refine wp_seq_k fun K50 hK50 => ?_
  refine wp_region_lit ?_
  refine q_is rfl rfl (does_assign (u := (Bo true)) (ev rfl)) (by dsimp only [List.set]; try rfl) ?_
  refine wpList_nil (hK50 _ _ ?_)
  refine wp_ret ?_
  refine ret_val (v := (Bo true)) (res_T rfl (slot rfl)) X46 ?_
  have x51 : (sameNd A_a A_b) = true := by first | with_reducible rfl | (simp only [sameNd, icmp, c29, c34, c39, c47]; done) | (simp [sameNd, icmp, c29, c34, c39, c47]; done) | (revert c29 c34 c39 c47; simp +contextual [sameNd, icmp]; done) | (rcases c29' with hh | hh <;> simp only [hh, sameNd, icmp, c29, c34, c39, c47]; done) | (rcases c34' with hh | hh <;> simp only [hh, sameNd, icmp, c29, c34, c39, c47]; done) | (rcases c39' with hh | hh <;> simp only [hh, sameNd, icmp, c29, c34, c39, c47]; done) | (rcases c47' with hh | hh <;> simp only [hh, sameNd, icmp, c29, c34, c39, c47]; done) | (rcases c47' with hh | hh <;> simp_all [sameNd, icmp]; done) | (rcases c47' with hh | hh | hh <;> simp_all [sameNd, icmp]; done) | (rcases c47' with hh | hh | hh | hh <;> simp_all [sameNd, icmp]; done) | (simp_all [sameNd, icmp]; done) | rfl
  exact (by first | rfl | rw [x51])

/- laws.eqStep -/
theorem c_laws_eqStep (a : List Value) (A_a : StepT) (b : List Value) (A_b : StepT) (w : World) (hv_a : RStepT w A_a a) (hv_b : RStepT w A_b b) : Gives Try.prog 96 #[(.agg a.toArray), (.agg b.toArray)] w (fun v w' => v = (Bo (sameSt A_a A_b))) := by
  obtain ⟨y1, rfl, h2⟩ := hv_a
  obtain ⟨y3, rfl, h4⟩ := hv_b
  have hs7 := h2; have hs7l := Sl.len h2; obtain ⟨p5, q6, rfl⟩ := Sl.shape h2
  have hs10 := h4; have hs10l := Sl.len h4; obtain ⟨p8, q9, rfl⟩ := Sl.shape h4
  refine enter [(.agg #[(Iv A_a.kind), (Iv A_a.to), (Iv A_a.a), (Iv A_a.b), (Iv A_a.node.kind), (Iv A_a.node.a), (Iv A_a.node.b), (.slice p5 A_a.node.nums.length q6)]), (.agg #[(Iv A_b.kind), (Iv A_b.to), (Iv A_b.a), (Iv A_b.b), (Iv A_b.node.kind), (Iv A_b.node.a), (Iv A_b.node.b), (.slice p8 A_b.node.nums.length q9)]), Ud, Ud, Ud, Ud, Ud, Ud, Ud, Ud, Ud, Ud, Ud, Ud, Ud, Ud, Ud, Ud, Ud, Ud, Ud, Ud, Ud, Ud, Ud, Ud, Ud, Ud, Ud, Ud, Ud] Try.func96 rfl Try.ntmps96 rfl ?_
  refine wp_seq_k fun K11 hK11 => ?_
  refine wp_region_lit ?_
  refine seqd rfl rfl (does_box (u := (.agg #[(Iv A_a.kind), (Iv A_a.to), (Iv A_a.a), (Iv A_a.b), (Iv A_a.node.kind), (Iv A_a.node.a), (Iv A_a.node.b), (.slice p5 A_a.node.nums.length q6)])) (ev rfl)) ?_; rintro _ w16 ⟨b12, rfl, hb13, hB14, E15⟩
  have g17 : w.heap.size ≤ b12 := Nat.le_trans (Below.size (Ext.refl w)) hb13
  change Blk _ _ [(Iv A_a.kind), (Iv A_a.to), (Iv A_a.a), (Iv A_a.b), (Iv A_a.node.kind), (Iv A_a.node.a), (Iv A_a.node.b), (.slice p5 A_a.node.nums.length q6)] at hB14
  have X18 := Ext.gr (Ext.refl w) E15
  show wpList _ _ _ _ (fr [(.agg #[(Iv A_a.kind), (Iv A_a.to), (Iv A_a.a), (Iv A_a.b), (Iv A_a.node.kind), (Iv A_a.node.a), (Iv A_a.node.b), (.slice p5 A_a.node.nums.length q6)]), (.agg #[(Iv A_b.kind), (Iv A_b.to), (Iv A_b.a), (Iv A_b.b), (Iv A_b.node.kind), (Iv A_b.node.a), (Iv A_b.node.b), (.slice p8 A_b.node.nums.length q9)]), (Pt b12 0), Ud, Ud, Ud, Ud, Ud, Ud, Ud, Ud, Ud, Ud, Ud, Ud, Ud, Ud, Ud, Ud, Ud, Ud, Ud, Ud, Ud, Ud, Ud, Ud, Ud, Ud, Ud, Ud]) _
  refine seqd rfl rfl (does_box (u := (.agg #[(Iv A_b.kind), (Iv A_b.to), (Iv A_b.a), (Iv A_b.b), (Iv A_b.node.kind), (Iv A_b.node.a), (Iv A_b.node.b), (.slice p8 A_b.node.nums.length q9)])) (ev rfl)) ?_; rintro _ w23 ⟨b19, rfl, hb20, hB21, E22⟩
  have n24 : b12 < b19 := Nat.lt_of_lt_of_le (Blk.lt hB14) hb20
  have g25 : w.heap.size ≤ b19 := Nat.le_trans (Below.size X18) hb20
  change Blk _ _ [(Iv A_b.kind), (Iv A_b.to), (Iv A_b.a), (Iv A_b.b), (Iv A_b.node.kind), (Iv A_b.node.a), (Iv A_b.node.b), (.slice p8 A_b.node.nums.length q9)] at hB21
  have X26 := Ext.gr X18 E22
  show wpList _ _ _ _ (fr [(.agg #[(Iv A_a.kind), (Iv A_a.to), (Iv A_a.a), (Iv A_a.b), (Iv A_a.node.kind), (Iv A_a.node.a), (Iv A_a.node.b), (.slice p5 A_a.node.nums.length q6)]), (.agg #[(Iv A_b.kind), (Iv A_b.to), (Iv A_b.a), (Iv A_b.b), (Iv A_b.node.kind), (Iv A_b.node.a), (Iv A_b.node.b), (.slice p8 A_b.node.nums.length q9)]), (Pt b12 0), (Pt b19 0), Ud, Ud, Ud, Ud, Ud, Ud, Ud, Ud, Ud, Ud, Ud, Ud, Ud, Ud, Ud, Ud, Ud, Ud, Ud, Ud, Ud, Ud, Ud, Ud, Ud, Ud, Ud]) _
  refine q_is rfl rfl (does_assign (u := (Bo false)) (ev rfl)) (by dsimp only [List.set]; try rfl) ?_
  refine wpList_nil (hK11 _ _ ?_)
  refine wp_seq_k fun K27 hK27 => ?_
  refine wp_seq_k fun K28 hK28 => ?_
  refine wp_region_lit ?_
  refine q_is rfl rfl (does_fieldAddr (ev rfl) fa100_0) (by dsimp only [List.set]; try rfl) ?_
  refine q_is rfl rfl (does_load (u := (Iv A_a.kind)) (ev rfl) Try.isAgg2 (Cells.at (Blk.cells (hB14.ext E22)) 0 rfl)) (by dsimp only [List.set]; try rfl) ?_
  refine q_is rfl rfl (does_fieldAddr (ev rfl) fa100_0) (by dsimp only [List.set]; try rfl) ?_
  refine q_is rfl rfl (does_load (u := (Iv A_b.kind)) (ev rfl) Try.isAgg2 (Cells.at (Blk.cells hB21) 0 rfl)) (by dsimp only [List.set]; try rfl) ?_
  refine q_is rfl rfl (does_icmp (p := A_a.kind) (q := A_b.kind) (.inr (.inl rfl)) (ev rfl) (ev rfl)) (by dsimp only [List.set]; try rfl) ?_
  refine wpList_nil (hK28 _ _ ?_)
  refine wp_cond_split (t := icmp .neq A_a.kind A_b.kind) (ev rfl) (fun c29 => ?_) (fun c29 => ?_)
  · have c29' := c29
    (try simp only [icmp, Bool.and_eq_true, Bool.or_eq_true, Bool.and_eq_false_iff, Bool.or_eq_false_iff, Bool.not_eq_true', Bool.not_eq_false', decide_eq_true_eq, decide_eq_false_iff_not, beq_iff_eq, bne_iff_ne, beq_eq_false_iff_ne, bne_eq_false_iff_eq] at c29')
    refine wp_seq_k fun K30 hK30 => ?_
    refine wp_region_lit ?_
    refine q_is rfl rfl (does_assign (u := (Bo false)) (ev rfl)) (by dsimp only [List.set]; try rfl) ?_
    refine wpList_nil (hK30 _ _ ?_)
    refine wp_ret ?_
    dsimp only [Exit.then, Exit.inBlock]
    refine ret_val (v := (Bo false)) (res_T rfl (slot rfl)) X26 ?_
    have x31 : (sameSt A_a A_b) = false := by first | with_reducible rfl | (simp only [sameSt, icmp, c29]; done) | (simp [sameSt, icmp, c29]; done) | (revert c29; simp +contextual [sameSt, icmp]; done) | (rcases c29' with hh | hh <;> simp only [hh, sameSt, icmp, c29]; done) | (rcases c29' with hh | hh <;> simp_all [sameSt, icmp]; done) | (rcases c29' with hh | hh | hh <;> simp_all [sameSt, icmp]; done) | (rcases c29' with hh | hh | hh | hh <;> simp_all [sameSt, icmp]; done) | (simp_all [sameSt, icmp]; done) | rfl
    exact (by first | rfl | rw [x31])
  have c29' := c29
  (try simp only [icmp, Bool.and_eq_true, Bool.or_eq_true, Bool.and_eq_false_iff, Bool.or_eq_false_iff, Bool.not_eq_true', Bool.not_eq_false', decide_eq_true_eq, decide_eq_false_iff_not, beq_iff_eq, bne_iff_ne, beq_eq_false_iff_ne, bne_eq_false_iff_eq] at c29')
  refine wp_skip (hK27 _ _ ?_)
  refine wp_seq_k fun K32 hK32 => ?_
  refine wp_seq_k fun K33 hK33 => ?_
  refine wp_region_lit ?_
  refine q_is rfl rfl (does_fieldAddr (ev rfl) fa100_1) (by dsimp only [List.set]; try rfl) ?_
  refine q_is rfl rfl (does_load (u := (Iv A_a.to)) (ev rfl) Try.isAgg2 (Cells.at (Blk.cells (hB14.ext E22)) 1 rfl)) (by dsimp only [List.set]; try rfl) ?_
  refine q_is rfl rfl (does_fieldAddr (ev rfl) fa100_1) (by dsimp only [List.set]; try rfl) ?_
  refine q_is rfl rfl (does_load (u := (Iv A_b.to)) (ev rfl) Try.isAgg2 (Cells.at (Blk.cells hB21) 1 rfl)) (by dsimp only [List.set]; try rfl) ?_
  refine q_is rfl rfl (does_icmp (p := A_a.to) (q := A_b.to) (.inr (.inl rfl)) (ev rfl) (ev rfl)) (by dsimp only [List.set]; try rfl) ?_
  refine wpList_nil (hK33 _ _ ?_)
  refine wp_cond_split (t := icmp .neq A_a.to A_b.to) (ev rfl) (fun c34 => ?_) (fun c34 => ?_)
  · have c34' := c34
    (try simp only [icmp, Bool.and_eq_true, Bool.or_eq_true, Bool.and_eq_false_iff, Bool.or_eq_false_iff, Bool.not_eq_true', Bool.not_eq_false', decide_eq_true_eq, decide_eq_false_iff_not, beq_iff_eq, bne_iff_ne, beq_eq_false_iff_ne, bne_eq_false_iff_eq] at c34')
    refine wp_seq_k fun K35 hK35 => ?_
    refine wp_region_lit ?_
    refine q_is rfl rfl (does_assign (u := (Bo false)) (ev rfl)) (by dsimp only [List.set]; try rfl) ?_
    refine wpList_nil (hK35 _ _ ?_)
    refine wp_ret ?_
    dsimp only [Exit.then, Exit.inBlock]
    refine ret_val (v := (Bo false)) (res_T rfl (slot rfl)) X26 ?_
    have x36 : (sameSt A_a A_b) = false := by first | with_reducible rfl | (simp only [sameSt, icmp, c29, c34]; done) | (simp [sameSt, icmp, c29, c34]; done) | (revert c29 c34; simp +contextual [sameSt, icmp]; done) | (rcases c29' with hh | hh <;> simp only [hh, sameSt, icmp, c29, c34]; done) | (rcases c34' with hh | hh <;> simp only [hh, sameSt, icmp, c29, c34]; done) | (rcases c34' with hh | hh <;> simp_all [sameSt, icmp]; done) | (rcases c34' with hh | hh | hh <;> simp_all [sameSt, icmp]; done) | (rcases c34' with hh | hh | hh | hh <;> simp_all [sameSt, icmp]; done) | (simp_all [sameSt, icmp]; done) | rfl
    exact (by first | rfl | rw [x36])
  have c34' := c34
  (try simp only [icmp, Bool.and_eq_true, Bool.or_eq_true, Bool.and_eq_false_iff, Bool.or_eq_false_iff, Bool.not_eq_true', Bool.not_eq_false', decide_eq_true_eq, decide_eq_false_iff_not, beq_iff_eq, bne_iff_ne, beq_eq_false_iff_ne, bne_eq_false_iff_eq] at c34')
  refine wp_skip (hK32 _ _ ?_)
  refine wp_seq_k fun K37 hK37 => ?_
  refine wp_seq_k fun K38 hK38 => ?_
  refine wp_region_lit ?_
  refine q_is rfl rfl (does_fieldAddr (ev rfl) fa100_2) (by dsimp only [List.set]; try rfl) ?_
  refine q_is rfl rfl (does_load (u := (Iv A_a.a)) (ev rfl) Try.isAgg2 (Cells.at (Blk.cells (hB14.ext E22)) 2 rfl)) (by dsimp only [List.set]; try rfl) ?_
  refine q_is rfl rfl (does_fieldAddr (ev rfl) fa100_2) (by dsimp only [List.set]; try rfl) ?_
  refine q_is rfl rfl (does_load (u := (Iv A_b.a)) (ev rfl) Try.isAgg2 (Cells.at (Blk.cells hB21) 2 rfl)) (by dsimp only [List.set]; try rfl) ?_
  refine q_is rfl rfl (does_icmp (p := A_a.a) (q := A_b.a) (.inr (.inl rfl)) (ev rfl) (ev rfl)) (by dsimp only [List.set]; try rfl) ?_
  refine wpList_nil (hK38 _ _ ?_)
  refine wp_cond_split (t := icmp .neq A_a.a A_b.a) (ev rfl) (fun c39 => ?_) (fun c39 => ?_)
  · have c39' := c39
    (try simp only [icmp, Bool.and_eq_true, Bool.or_eq_true, Bool.and_eq_false_iff, Bool.or_eq_false_iff, Bool.not_eq_true', Bool.not_eq_false', decide_eq_true_eq, decide_eq_false_iff_not, beq_iff_eq, bne_iff_ne, beq_eq_false_iff_ne, bne_eq_false_iff_eq] at c39')
    refine wp_seq_k fun K40 hK40 => ?_
    refine wp_region_lit ?_
    refine q_is rfl rfl (does_assign (u := (Bo false)) (ev rfl)) (by dsimp only [List.set]; try rfl) ?_
    refine wpList_nil (hK40 _ _ ?_)
    refine wp_ret ?_
    dsimp only [Exit.then, Exit.inBlock]
    refine ret_val (v := (Bo false)) (res_T rfl (slot rfl)) X26 ?_
    have x41 : (sameSt A_a A_b) = false := by first | with_reducible rfl | (simp only [sameSt, icmp, c29, c34, c39]; done) | (simp [sameSt, icmp, c29, c34, c39]; done) | (revert c29 c34 c39; simp +contextual [sameSt, icmp]; done) | (rcases c29' with hh | hh <;> simp only [hh, sameSt, icmp, c29, c34, c39]; done) | (rcases c34' with hh | hh <;> simp only [hh, sameSt, icmp, c29, c34, c39]; done) | (rcases c39' with hh | hh <;> simp only [hh, sameSt, icmp, c29, c34, c39]; done) | (rcases c39' with hh | hh <;> simp_all [sameSt, icmp]; done) | (rcases c39' with hh | hh | hh <;> simp_all [sameSt, icmp]; done) | (rcases c39' with hh | hh | hh | hh <;> simp_all [sameSt, icmp]; done) | (simp_all [sameSt, icmp]; done) | rfl
    exact (by first | rfl | rw [x41])
  have c39' := c39
  (try simp only [icmp, Bool.and_eq_true, Bool.or_eq_true, Bool.and_eq_false_iff, Bool.or_eq_false_iff, Bool.not_eq_true', Bool.not_eq_false', decide_eq_true_eq, decide_eq_false_iff_not, beq_iff_eq, bne_iff_ne, beq_eq_false_iff_ne, bne_eq_false_iff_eq] at c39')
  refine wp_skip (hK37 _ _ ?_)
  refine wp_seq_k fun K42 hK42 => ?_
  refine wp_seq_k fun K43 hK43 => ?_
  refine wp_region_lit ?_
  refine q_is rfl rfl (does_fieldAddr (ev rfl) fa100_3) (by dsimp only [List.set]; try rfl) ?_
  refine q_is rfl rfl (does_load (u := (Iv A_a.b)) (ev rfl) Try.isAgg2 (Cells.at (Blk.cells (hB14.ext E22)) 3 rfl)) (by dsimp only [List.set]; try rfl) ?_
  refine q_is rfl rfl (does_fieldAddr (ev rfl) fa100_3) (by dsimp only [List.set]; try rfl) ?_
  refine q_is rfl rfl (does_load (u := (Iv A_b.b)) (ev rfl) Try.isAgg2 (Cells.at (Blk.cells hB21) 3 rfl)) (by dsimp only [List.set]; try rfl) ?_
  refine q_is rfl rfl (does_icmp (p := A_a.b) (q := A_b.b) (.inr (.inl rfl)) (ev rfl) (ev rfl)) (by dsimp only [List.set]; try rfl) ?_
  refine wpList_nil (hK43 _ _ ?_)
  refine wp_cond_split (t := icmp .neq A_a.b A_b.b) (ev rfl) (fun c44 => ?_) (fun c44 => ?_)
  · have c44' := c44
    (try simp only [icmp, Bool.and_eq_true, Bool.or_eq_true, Bool.and_eq_false_iff, Bool.or_eq_false_iff, Bool.not_eq_true', Bool.not_eq_false', decide_eq_true_eq, decide_eq_false_iff_not, beq_iff_eq, bne_iff_ne, beq_eq_false_iff_ne, bne_eq_false_iff_eq] at c44')
    refine wp_seq_k fun K45 hK45 => ?_
    refine wp_region_lit ?_
    refine q_is rfl rfl (does_assign (u := (Bo false)) (ev rfl)) (by dsimp only [List.set]; try rfl) ?_
    refine wpList_nil (hK45 _ _ ?_)
    refine wp_ret ?_
    dsimp only [Exit.then, Exit.inBlock]
    refine ret_val (v := (Bo false)) (res_T rfl (slot rfl)) X26 ?_
    have x46 : (sameSt A_a A_b) = false := by first | with_reducible rfl | (simp only [sameSt, icmp, c29, c34, c39, c44]; done) | (simp [sameSt, icmp, c29, c34, c39, c44]; done) | (revert c29 c34 c39 c44; simp +contextual [sameSt, icmp]; done) | (rcases c29' with hh | hh <;> simp only [hh, sameSt, icmp, c29, c34, c39, c44]; done) | (rcases c34' with hh | hh <;> simp only [hh, sameSt, icmp, c29, c34, c39, c44]; done) | (rcases c39' with hh | hh <;> simp only [hh, sameSt, icmp, c29, c34, c39, c44]; done) | (rcases c44' with hh | hh <;> simp only [hh, sameSt, icmp, c29, c34, c39, c44]; done) | (rcases c44' with hh | hh <;> simp_all [sameSt, icmp]; done) | (rcases c44' with hh | hh | hh <;> simp_all [sameSt, icmp]; done) | (rcases c44' with hh | hh | hh | hh <;> simp_all [sameSt, icmp]; done) | (simp_all [sameSt, icmp]; done) | rfl
    exact (by first | rfl | rw [x46])
  have c44' := c44
  (try simp only [icmp, Bool.and_eq_true, Bool.or_eq_true, Bool.and_eq_false_iff, Bool.or_eq_false_iff, Bool.not_eq_true', Bool.not_eq_false', decide_eq_true_eq, decide_eq_false_iff_not, beq_iff_eq, bne_iff_ne, beq_eq_false_iff_ne, bne_eq_false_iff_eq] at c44')
  refine wp_skip (hK42 _ _ ?_)
  refine wp_seq_k fun K47 hK47 => ?_
  refine wp_seq_k fun K48 hK48 => ?_
  refine wp_region_lit ?_
  refine q_is rfl rfl (does_fieldAddr (ev rfl) fa100_4) (by dsimp only [List.set]; try rfl) ?_
  refine q_is rfl rfl (does_loadAgg (cs := [(Iv A_a.node.kind), (Iv A_a.node.a), (Iv A_a.node.b), (.slice p5 A_a.node.nums.length q6)]) (ev rfl) Try.isAgg27 Try.sizeOf27 (Cells.sub (Blk.cells (hB14.ext E22)) 4 4) rfl) (by dsimp only [List.set]; try rfl) ?_
  refine q_is rfl rfl (does_fieldAddr (ev rfl) fa100_4) (by dsimp only [List.set]; try rfl) ?_
  refine q_is rfl rfl (does_loadAgg (cs := [(Iv A_b.node.kind), (Iv A_b.node.a), (Iv A_b.node.b), (.slice p8 A_b.node.nums.length q9)]) (ev rfl) Try.isAgg27 Try.sizeOf27 (Cells.sub (Blk.cells hB21) 4 4) rfl) (by dsimp only [List.set]; try rfl) ?_
  refine seqd rfl rfl (does_call (args := #[(.agg #[(Iv A_a.node.kind), (Iv A_a.node.a), (Iv A_a.node.b), (.slice p5 A_a.node.nums.length q6)]), (.agg #[(Iv A_b.node.kind), (Iv A_b.node.a), (Iv A_b.node.b), (.slice p8 A_b.node.nums.length q9)])]) cal14 (evs rfl) (c_laws_eqNode [(Iv A_a.node.kind), (Iv A_a.node.a), (Iv A_a.node.b), (.slice p5 A_a.node.nums.length q6)] A_a.node [(Iv A_b.node.kind), (Iv A_b.node.a), (Iv A_b.node.b), (.slice p8 A_b.node.nums.length q9)] A_b.node _ ⟨(.slice p5 A_a.node.nums.length q6), rfl, (Sl.ext hs7 RF.mono X26)⟩ ⟨(.slice p8 A_b.node.nums.length q9), rfl, (Sl.ext hs10 RF.mono X26)⟩)) ?_; rintro _ w50 ⟨E49, rfl⟩
  have X51 := Ext.gr X26 E49
  show wpList _ _ _ _ (fr [(.agg #[(Iv A_a.kind), (Iv A_a.to), (Iv A_a.a), (Iv A_a.b), (Iv A_a.node.kind), (Iv A_a.node.a), (Iv A_a.node.b), (.slice p5 A_a.node.nums.length q6)]), (.agg #[(Iv A_b.kind), (Iv A_b.to), (Iv A_b.a), (Iv A_b.b), (Iv A_b.node.kind), (Iv A_b.node.a), (Iv A_b.node.b), (.slice p8 A_b.node.nums.length q9)]), (Pt b12 0), (Pt b19 0), (Bo false), (Pt b12 0), (Iv A_a.kind), (Pt b19 0), (Iv A_b.kind), (Bo (icmp .neq A_a.kind A_b.kind)), (Pt b12 1), (Iv A_a.to), (Pt b19 1), (Iv A_b.to), (Bo (icmp .neq A_a.to A_b.to)), (Pt b12 2), (Iv A_a.a), (Pt b19 2), (Iv A_b.a), (Bo (icmp .neq A_a.a A_b.a)), (Pt b12 3), (Iv A_a.b), (Pt b19 3), (Iv A_b.b), (Bo (icmp .neq A_a.b A_b.b)), (Pt b12 4), (.agg #[(Iv A_a.node.kind), (Iv A_a.node.a), (Iv A_a.node.b), (.slice p5 A_a.node.nums.length q6)]), (Pt b19 4), (.agg #[(Iv A_b.node.kind), (Iv A_b.node.a), (Iv A_b.node.b), (.slice p8 A_b.node.nums.length q9)]), (Bo (sameNd A_a.node A_b.node)), Ud]) _
  refine q_is rfl rfl (does_not (ev rfl)) (by dsimp only [List.set]; try rfl) ?_
  refine wpList_nil (hK48 _ _ ?_)
  refine wp_cond_split (t := !(sameNd A_a.node A_b.node)) (ev rfl) (fun c52 => ?_) (fun c52 => ?_)
  · rw [Bool.not_eq_true'] at c52
    have c52' := c52
    refine wp_seq_k fun K53 hK53 => ?_
    refine wp_region_lit ?_
    refine q_is rfl rfl (does_assign (u := (Bo false)) (ev rfl)) (by dsimp only [List.set]; try rfl) ?_
    refine wpList_nil (hK53 _ _ ?_)
    refine wp_ret ?_
    dsimp only [Exit.then, Exit.inBlock]
    refine ret_val (v := (Bo false)) (res_T rfl (slot rfl)) X51 ?_
    have x54 : (sameSt A_a A_b) = false := by first | with_reducible rfl | (simp only [sameSt, icmp, c29, c34, c39, c44, c52]; done) | (simp [sameSt, icmp, c29, c34, c39, c44, c52]; done) | (revert c29 c34 c39 c44 c52; simp +contextual [sameSt, icmp]; done) | (rcases c29' with hh | hh <;> simp only [hh, sameSt, icmp, c29, c34, c39, c44, c52]; done) | (rcases c34' with hh | hh <;> simp only [hh, sameSt, icmp, c29, c34, c39, c44, c52]; done) | (rcases c39' with hh | hh <;> simp only [hh, sameSt, icmp, c29, c34, c39, c44, c52]; done) | (rcases c44' with hh | hh <;> simp only [hh, sameSt, icmp, c29, c34, c39, c44, c52]; done) | (rcases c52' with hh | hh <;> simp only [hh, sameSt, icmp, c29, c34, c39, c44, c52]; done) | (rcases c52' with hh | hh <;> simp_all [sameSt, icmp]; done) | (rcases c52' with hh | hh | hh <;> simp_all [sameSt, icmp]; done) | (rcases c52' with hh | hh | hh | hh <;> simp_all [sameSt, icmp]; done) | (simp_all [sameSt, icmp]; done) | rfl
    exact (by first | rfl | rw [x54])
  rw [Bool.not_eq_false'] at c52
  have c52' := c52
  refine wp_skip (hK47 _ _ ?_)
  refine wp_seq_k fun K55 hK55 => ?_
  refine wp_region_lit ?_
  refine q_is rfl rfl (does_assign (u := (Bo true)) (ev rfl)) (by dsimp only [List.set]; try rfl) ?_
  refine wpList_nil (hK55 _ _ ?_)
  refine wp_ret ?_
  refine ret_val (v := (Bo true)) (res_T rfl (slot rfl)) X51 ?_
  have x56 : (sameSt A_a A_b) = true := by first | with_reducible rfl | (simp only [sameSt, icmp, c29, c34, c39, c44, c52]; done) | (simp [sameSt, icmp, c29, c34, c39, c44, c52]; done) | (revert c29 c34 c39 c44 c52; simp +contextual [sameSt, icmp]; done) | (rcases c29' with hh | hh <;> simp only [hh, sameSt, icmp, c29, c34, c39, c44, c52]; done) | (rcases c34' with hh | hh <;> simp only [hh, sameSt, icmp, c29, c34, c39, c44, c52]; done) | (rcases c39' with hh | hh <;> simp only [hh, sameSt, icmp, c29, c34, c39, c44, c52]; done) | (rcases c44' with hh | hh <;> simp only [hh, sameSt, icmp, c29, c34, c39, c44, c52]; done) | (rcases c52' with hh | hh <;> simp only [hh, sameSt, icmp, c29, c34, c39, c44, c52]; done) | (rcases c52' with hh | hh <;> simp_all [sameSt, icmp]; done) | (rcases c52' with hh | hh | hh <;> simp_all [sameSt, icmp]; done) | (rcases c52' with hh | hh | hh | hh <;> simp_all [sameSt, icmp]; done) | (simp_all [sameSt, icmp]; done) | rfl
  exact (by first | rfl | rw [x56])

/- laws.eqStepS -/
theorem c_laws_eqStepS (a : Value) (L_a : List StepT) (b : Value) (L_b : List StepT) (w : World) (hv_a : Sl RStepT 8 w a L_a) (hv_b : Sl RStepT 8 w b L_b) : Gives Try.prog 52 #[a, b] w (fun v w' => v = (Bo (sameX sameSt L_a L_b))) := by
  have hlen_a := Sl.len hv_a; obtain ⟨p_a, q_a, rfl⟩ := Sl.shape hv_a
  have hlen_b := Sl.len hv_b; obtain ⟨p_b, q_b, rfl⟩ := Sl.shape hv_b
  refine enter [(.slice p_a L_a.length q_a), (.slice p_b L_b.length q_b), Ud, Ud, Ud, Ud, Ud, Ud, Ud, Ud, Ud, Ud, Ud, Ud, Ud, Ud, Ud, Ud, Ud, Ud, Ud, Ud, Ud, Ud, Ud, Ud, Ud] Try.func52 rfl Try.ntmps52 rfl ?_
  refine wp_seq_k fun K1 hK1 => ?_
  refine wp_region_lit ?_
  refine q_is rfl rfl (does_assign (u := (Bo false)) (ev rfl)) (by dsimp only [List.set]; try rfl) ?_
  refine wpList_nil (hK1 _ _ ?_)
  refine wp_seq_k fun K2 hK2 => ?_
  refine wp_seq_k fun K3 hK3 => ?_
  refine wp_region_lit ?_
  refine q_is rfl rfl (does_move (u := (.slice p_a L_a.length q_a)) (ev rfl)) (by dsimp only [List.set]; try rfl) ?_
  refine q_is rfl rfl (does_len_slice Try.underlying36 (ev rfl)) (by dsimp only [List.set]; try rfl) ?_
  refine q_is rfl rfl (does_move (u := (.slice p_b L_b.length q_b)) (ev rfl)) (by dsimp only [List.set]; try rfl) ?_
  refine q_is rfl rfl (does_len_slice Try.underlying36 (ev rfl)) (by dsimp only [List.set]; try rfl) ?_
  refine q_is rfl rfl (does_icmp (p := (L_a.length : Int)) (q := (L_b.length : Int)) (.inr (.inl rfl)) (ev rfl) (ev rfl)) (by dsimp only [List.set]; try rfl) ?_
  refine wpList_nil (hK3 _ _ ?_)
  refine wp_cond_split (t := icmp .neq (L_a.length : Int) (L_b.length : Int)) (ev rfl) (fun c4 => ?_) (fun c4 => ?_)
  · have c4' := c4
    (try simp only [icmp, Bool.and_eq_true, Bool.or_eq_true, Bool.and_eq_false_iff, Bool.or_eq_false_iff, Bool.not_eq_true', Bool.not_eq_false', decide_eq_true_eq, decide_eq_false_iff_not, beq_iff_eq, bne_iff_ne, beq_eq_false_iff_ne, bne_eq_false_iff_eq] at c4')
    refine wp_seq_k fun K5 hK5 => ?_
    refine wp_region_lit ?_
    refine q_is rfl rfl (does_assign (u := (Bo false)) (ev rfl)) (by dsimp only [List.set]; try rfl) ?_
    refine wpList_nil (hK5 _ _ ?_)
    refine wp_ret ?_
    dsimp only [Exit.then, Exit.inBlock]
    refine ret_val (v := (Bo false)) (res_T rfl (slot rfl)) (Ext.refl w) ?_
    have x6 : (sameX sameSt L_a L_b) = false := by first | exact (sameX_len (by omega)) | exact (sameX_not (by omega) (by assumption) (by assumption) (by simp_all)) | exact (sameX_all (by omega) (by omega) hs)
    exact (by first | rfl | rw [x6])
  have c4' := c4
  (try simp only [icmp, Bool.and_eq_true, Bool.or_eq_true, Bool.and_eq_false_iff, Bool.or_eq_false_iff, Bool.not_eq_true', Bool.not_eq_false', decide_eq_true_eq, decide_eq_false_iff_not, beq_iff_eq, bne_iff_ne, beq_eq_false_iff_ne, bne_eq_false_iff_eq] at c4')
  refine wp_skip (hK2 _ _ ?_)
  refine wp_seq_k fun K7 hK7 => ?_
  refine wp_seq_k fun K8 hK8 => ?_
  refine wp_region_lit ?_
  refine q_is rfl rfl (does_assign (u := (Iv 0)) (ev rfl)) (by dsimp only [List.set]; try rfl) ?_
  refine wpList_nil (hK8 _ _ ?_)
  refine wp_block ?_
  refine loop_ghost (σ := Nat) (fun k a w' => ∃ u9 : Nat → Value, a = fr [(.slice p_a L_a.length q_a), (.slice p_b L_b.length q_b), Ud, Ud, (u9 4), (Iv (k : Int)), (.slice p_a L_a.length q_a), (Iv (L_a.length : Int)), (.slice p_b L_b.length q_b), (Iv (L_b.length : Int)), (Bo (icmp .neq (L_a.length : Int) (L_b.length : Int))), (u9 11), (u9 12), (u9 13), (u9 14), (u9 15), (u9 16), (u9 17), (u9 18), (u9 19), (u9 20), (u9 21), (u9 22), (u9 23), (u9 24), (u9 25), (u9 26)] ∧ Ext w w' ∧ (k ≤ L_a.length ∧ SameXTo sameSt L_a L_b k)) (fun k => L_a.length - k) 0 ?_ ?_
  · refine ⟨fun t => (([(.slice p_a L_a.length q_a), (.slice p_b L_b.length q_b), Ud, Ud, (Bo false), (Iv 0), (.slice p_a L_a.length q_a), (Iv (L_a.length : Int)), (.slice p_b L_b.length q_b), (Iv (L_b.length : Int)), (Bo (icmp .neq (L_a.length : Int) (L_b.length : Int))), Ud, Ud, Ud, Ud, Ud, Ud, Ud, Ud, Ud, Ud, Ud, Ud, Ud, Ud, Ud, Ud] : List Value)[t]?).getD undef, rfl, Ext.refl _, ?_⟩
    exact ⟨Nat.zero_le _, SameXTo.zero⟩
  · rintro k a w10 ⟨u9, rfl, E11, ⟨hk, hs⟩⟩
    have X13 := Ext.gr (Ext.refl w) E11
    refine wp_seq_k fun K14 hK14 => ?_
    refine wp_seq_k fun K15 hK15 => ?_
    refine wp_region_lit ?_
    refine q_is rfl rfl (does_move (u := (Iv (k : Int))) (ev rfl)) (by dsimp only [List.set]; try rfl) ?_
    refine q_is rfl rfl (does_move (u := (.slice p_a L_a.length q_a)) (ev rfl)) (by dsimp only [List.set]; try rfl) ?_
    refine q_is rfl rfl (does_len_slice Try.underlying36 (ev rfl)) (by dsimp only [List.set]; try rfl) ?_
    refine q_is rfl rfl (does_icmp (p := (k : Int)) (q := (L_a.length : Int)) (.inr (.inr (.inl rfl))) (ev rfl) (ev rfl)) (by dsimp only [List.set]; try rfl) ?_
    refine wpList_nil (hK15 _ _ ?_)
    refine wp_cond_split (t := icmp .lss (k : Int) (L_a.length : Int)) (ev rfl) (fun c16 => ?_) (fun c16 => ?_)
    · have c16' := c16
      (try simp only [icmp, Bool.and_eq_true, Bool.or_eq_true, Bool.and_eq_false_iff, Bool.or_eq_false_iff, Bool.not_eq_true', Bool.not_eq_false', decide_eq_true_eq, decide_eq_false_iff_not, beq_iff_eq, bne_iff_ne, beq_eq_false_iff_ne, bne_eq_false_iff_eq] at c16')
      refine wp_skip (hK14 _ _ ?_)
      refine wp_seq_k fun K17 hK17 => ?_
      refine wp_block ?_
      refine wp_seq_k fun K18 hK18 => ?_
      obtain ⟨el1, hel1⟩ : ∃ e, L_a[k]? = some e := ⟨_, List.getElem?_eq_getElem (by omega)⟩
      obtain ⟨el2, hel2⟩ : ∃ e, L_b[k]? = some e := ⟨_, List.getElem?_eq_getElem (by omega)⟩
      refine region_draw (
        [Fact.pure [] (fun v => v = (.slice p_a L_a.length q_a)),
    Fact.pure [] (fun v => v = (Iv (k : Int))),
    Fact.mem [17, 18] (fun v w' => PtrR RStepT w' v el1) (by intro v w1 w2 hx h; exact h.ext RStepT.mono hx),
    Fact.mem [19] (fun v w' => ∃ cs_1 : List Value, v = (.agg cs_1.toArray) ∧ RStepT w' el1 cs_1) (by rintro v w1 w2 hx ⟨z1, rfl, k0⟩; exact ⟨z1, rfl, (RStepT.mono _ _ _ _ hx k0)⟩),
    Fact.pure [] (fun v => v = (.slice p_b L_b.length q_b)),
    Fact.pure [] (fun v => v = (Iv (k : Int))),
    Fact.mem [21, 22] (fun v w' => PtrR RStepT w' v el2) (by intro v w1 w2 hx h; exact h.ext RStepT.mono hx),
    Fact.mem [23] (fun v w' => ∃ cs_1 : List Value, v = (.agg cs_1.toArray) ∧ RStepT w' el2 cs_1) (by rintro v w1 w2 hx ⟨z1, rfl, k0⟩; exact ⟨z1, rfl, (RStepT.mono _ _ _ _ hx k0)⟩),
    Fact.pure [20, 24] (fun v => v = (Bo (sameSt el1 el2))),
    Fact.pure [25] (fun v => v = (Bo (!(sameSt el1 el2))))]) mixed (by kernel_rfl) (by intro _ _ d _ _ h; cases d <;> exact h) ?_
      obtain ⟨w19, hw21⟩ : ∃ w', w' = World.drew w10 := ⟨_, rfl⟩; rw [← hw21]; have E20 : Ext w10 w19 := by rw [hw21]; exact Ext.draw _
      clear hw21
      have X22 := Ext.gr X13 E20
      refine RW_d _ rfl (fun v => by dsimp only [List.set]; try rfl) (fun u hu hF => ?_) (fun v23 => ?_)
      · clear hF
        refine doesG_un rfl ?_
        refine (does_move (u := (.slice p_a L_a.length q_a)) (ev rfl)).mono ?_; rintro _ _ ⟨rfl, rfl⟩
        exact ⟨rfl, Ext.refl _⟩
      refine RW_d _ rfl (fun v => by dsimp only [List.set]; try rfl) (fun u hu hF => ?_) (fun v24 => ?_)
      · clear hF
        refine doesG_un rfl ?_
        refine (does_move (u := (Iv (k : Int))) (ev rfl)).mono ?_; rintro _ _ ⟨rfl, rfl⟩
        exact ⟨rfl, Ext.refl _⟩
      refine RW_d _ rfl (fun v => by dsimp only [List.set]; try rfl) (fun u hu hF => ?_) (fun v25 => ?_)
      · have h17_ : v23 = (.slice p_a L_a.length q_a) := hF.1
        have h18_ : v24 = (Iv (k : Int)) := hF.2.1
        clear hF
        refine doesG_un rfl ?_
        obtain rfl := h17_
        obtain rfl := h18_
        refine (does_indexSl (R := RStepT) (i := (k : Int)) (xs := L_a) (e := el1) Try.underlying36 Try.sizeOf100 (ev rfl) (ev rfl) (Sl.ext (Sl.ext hv_a RStepT.mono (Ext.gr X13 E20)) RStepT.mono hu) (by omega) hel1).mono ?_; rintro v u' ⟨b, of, cs, hv, hc, hR, hu'⟩; subst hu'
        exact ⟨⟨b, of, cs, hv, hc, hR⟩, Ext.refl _⟩
      refine RW_d _ rfl (fun v => by dsimp only [List.set]; try rfl) (fun u hu hF => ?_) (fun v26 => ?_)
      · have h19_ : PtrR RStepT u v25 el1 := hF.1
        clear hF
        refine doesG_un rfl ?_
        obtain ⟨b19_, o19_, _, rfl, hc19_, ⟨y19_1, rfl, h19_2⟩⟩ := h19_
        have hh19_2 := h19_2; obtain ⟨p19_3, q19_4, rfl⟩ := Sl.shape h19_2
        refine (does_loadAgg (cs := [(Iv el1.kind), (Iv el1.to), (Iv el1.a), (Iv el1.b), (Iv el1.node.kind), (Iv el1.node.a), (Iv el1.node.b), (.slice p19_3 el1.node.nums.length q19_4)]) (ev rfl) Try.isAgg100 Try.sizeOf100 hc19_ rfl).mono ?_; rintro _ _ ⟨rfl, rfl⟩
        exact ⟨⟨[(Iv el1.kind), (Iv el1.to), (Iv el1.a), (Iv el1.b), (Iv el1.node.kind), (Iv el1.node.a), (Iv el1.node.b), (.slice p19_3 el1.node.nums.length q19_4)], rfl, ⟨(.slice p19_3 el1.node.nums.length q19_4), rfl, (by assumption)⟩⟩, Ext.refl _⟩
      refine RW_d _ rfl (fun v => by dsimp only [List.set]; try rfl) (fun u hu hF => ?_) (fun v27 => ?_)
      · clear hF
        refine doesG_un rfl ?_
        refine (does_move (u := (.slice p_b L_b.length q_b)) (ev rfl)).mono ?_; rintro _ _ ⟨rfl, rfl⟩
        exact ⟨rfl, Ext.refl _⟩
      refine RW_d _ rfl (fun v => by dsimp only [List.set]; try rfl) (fun u hu hF => ?_) (fun v28 => ?_)
      · clear hF
        refine doesG_un rfl ?_
        refine (does_move (u := (Iv (k : Int))) (ev rfl)).mono ?_; rintro _ _ ⟨rfl, rfl⟩
        exact ⟨rfl, Ext.refl _⟩
      refine RW_d _ rfl (fun v => by dsimp only [List.set]; try rfl) (fun u hu hF => ?_) (fun v29 => ?_)
      · have h21_ : v27 = (.slice p_b L_b.length q_b) := hF.1
        have h22_ : v28 = (Iv (k : Int)) := hF.2.1
        clear hF
        refine doesG_un rfl ?_
        obtain rfl := h21_
        obtain rfl := h22_
        refine (does_indexSl (R := RStepT) (i := (k : Int)) (xs := L_b) (e := el2) Try.underlying36 Try.sizeOf100 (ev rfl) (ev rfl) (Sl.ext (Sl.ext hv_b RStepT.mono (Ext.gr X13 E20)) RStepT.mono hu) (by omega) hel2).mono ?_; rintro v u' ⟨b, of, cs, hv, hc, hR, hu'⟩; subst hu'
        exact ⟨⟨b, of, cs, hv, hc, hR⟩, Ext.refl _⟩
      refine RW_d _ rfl (fun v => by dsimp only [List.set]; try rfl) (fun u hu hF => ?_) (fun v30 => ?_)
      · have h23_ : PtrR RStepT u v29 el2 := hF.1
        clear hF
        refine doesG_un rfl ?_
        obtain ⟨b23_, o23_, _, rfl, hc23_, ⟨y23_1, rfl, h23_2⟩⟩ := h23_
        have hh23_2 := h23_2; obtain ⟨p23_3, q23_4, rfl⟩ := Sl.shape h23_2
        refine (does_loadAgg (cs := [(Iv el2.kind), (Iv el2.to), (Iv el2.a), (Iv el2.b), (Iv el2.node.kind), (Iv el2.node.a), (Iv el2.node.b), (.slice p23_3 el2.node.nums.length q23_4)]) (ev rfl) Try.isAgg100 Try.sizeOf100 hc23_ rfl).mono ?_; rintro _ _ ⟨rfl, rfl⟩
        exact ⟨⟨[(Iv el2.kind), (Iv el2.to), (Iv el2.a), (Iv el2.b), (Iv el2.node.kind), (Iv el2.node.a), (Iv el2.node.b), (.slice p23_3 el2.node.nums.length q23_4)], rfl, ⟨(.slice p23_3 el2.node.nums.length q23_4), rfl, (by assumption)⟩⟩, Ext.refl _⟩
      refine RW_d _ rfl (fun v => by dsimp only [List.set]; try rfl) (fun u hu hF => ?_) (fun v31 => ?_)
      · have h20_ : ∃ cs_1 : List Value, v26 = (.agg cs_1.toArray) ∧ RStepT u el1 cs_1 := hF.1
        have h24_ : ∃ cs_1 : List Value, v30 = (.agg cs_1.toArray) ∧ RStepT u el2 cs_1 := hF.2.1
        clear hF
        refine doesG_un rfl ?_
        obtain ⟨_, rfl, ⟨y20_1, rfl, h20_2⟩⟩ := h20_
        have hh20_2 := h20_2; obtain ⟨p20_3, q20_4, rfl⟩ := Sl.shape h20_2
        obtain ⟨_, rfl, ⟨y24_1, rfl, h24_2⟩⟩ := h24_
        have hh24_2 := h24_2; obtain ⟨p24_3, q24_4, rfl⟩ := Sl.shape h24_2
        refine (does_call (args := #[(.agg #[(Iv el1.kind), (Iv el1.to), (Iv el1.a), (Iv el1.b), (Iv el1.node.kind), (Iv el1.node.a), (Iv el1.node.b), (.slice p20_3 el1.node.nums.length q20_4)]), (.agg #[(Iv el2.kind), (Iv el2.to), (Iv el2.a), (Iv el2.b), (Iv el2.node.kind), (Iv el2.node.a), (Iv el2.node.b), (.slice p24_3 el2.node.nums.length q24_4)])]) cal96 (evs rfl) (c_laws_eqStep [(Iv el1.kind), (Iv el1.to), (Iv el1.a), (Iv el1.b), (Iv el1.node.kind), (Iv el1.node.a), (Iv el1.node.b), (.slice p20_3 el1.node.nums.length q20_4)] el1 [(Iv el2.kind), (Iv el2.to), (Iv el2.a), (Iv el2.b), (Iv el2.node.kind), (Iv el2.node.a), (Iv el2.node.b), (.slice p24_3 el2.node.nums.length q24_4)] el2 _ ⟨(.slice p20_3 el1.node.nums.length q20_4), rfl, hh20_2⟩ ⟨(.slice p24_3 el2.node.nums.length q24_4), rfl, hh24_2⟩)).mono ?_; rintro v u' ⟨hx, hv⟩
        exact ⟨hv, hx⟩
      refine RW_d _ rfl (fun v => by dsimp only [List.set]; try rfl) (fun u hu hF => ?_) (fun v32 => ?_)
      · have h25_ : v31 = (Bo (sameSt el1 el2)) := hF.1
        clear hF
        refine doesG_un rfl ?_
        obtain rfl := h25_
        refine (does_not (ev rfl)).mono ?_; rintro _ _ ⟨rfl, rfl⟩
        exact ⟨rfl, Ext.refl _⟩
      refine RW_fin ?_; intro w33 E34 hP35
      obtain ⟨⟨⟨⟨⟨⟨⟨⟨⟨⟨-, -⟩, -⟩, -⟩, -⟩, -⟩, -⟩, -⟩, -⟩, -⟩, q36⟩ := hP35
      have X37 := Ext.gr X22 E34
      have q36 : v32 = (Bo (!(sameSt el1 el2))) := q36
      obtain rfl := q36
      show wpList _ _ _ _ (fr [(.slice p_a L_a.length q_a), (.slice p_b L_b.length q_b), Ud, Ud, (u9 4), (Iv (k : Int)), (.slice p_a L_a.length q_a), (Iv (L_a.length : Int)), (.slice p_b L_b.length q_b), (Iv (L_b.length : Int)), (Bo (icmp .neq (L_a.length : Int) (L_b.length : Int))), (Iv (k : Int)), (.slice p_a L_a.length q_a), (Iv (L_a.length : Int)), (Bo (icmp .lss (k : Int) (L_a.length : Int))), (u9 15), (u9 16), v23, v24, v25, v26, v27, v28, v29, v30, v31, (Bo (!(sameSt el1 el2)))]) _
      refine wpList_nil (hK18 _ _ ?_)
      refine wp_cond_split (t := !(sameSt el1 el2)) (ev rfl) (fun c38 => ?_) (fun c38 => ?_)
      · rw [Bool.not_eq_true'] at c38
        have c38' := c38
        refine wp_seq_k fun K39 hK39 => ?_
        refine wp_region_lit ?_
        refine q_is rfl rfl (does_assign (u := (Bo false)) (ev rfl)) (by dsimp only [List.set]; try rfl) ?_
        refine wpList_nil (hK39 _ _ ?_)
        refine wp_ret ?_
        dsimp only [Exit.then, Exit.inBlock]
        refine ret_val (v := (Bo false)) (res_T rfl (slot rfl)) X37 ?_
        try simp only [hel1, hel2] at c4 c16 c38
        have x40 : (sameX sameSt L_a L_b) = false := by first | exact (sameX_len (by omega)) | exact (sameX_not (by omega) (by assumption) (by assumption) (by simp_all)) | exact (sameX_all (by omega) (by omega) hs)
        exact (by first | rfl | rw [x40])
      rw [Bool.not_eq_false'] at c38
      have c38' := c38
      refine wp_skip (hK17 _ _ ?_)
      refine wp_region_lit ?_
      refine q_is rfl rfl (does_move (u := (Iv (k : Int))) (ev rfl)) (by dsimp only [List.set]; try rfl) ?_
      refine q_is rfl rfl (does_iarith (p := (k : Int)) (q := 1) (r := (k : Int) + 1) (ev rfl) (ev rfl) (.inl ⟨rfl, (in_i64 (by omega) (by omega)).symm⟩)) (by dsimp only [List.set]; try rfl) ?_
      refine q_is rfl rfl (does_assign (u := (Iv ((k : Int) + 1))) (ev rfl)) (by dsimp only [List.set]; try rfl) ?_
      refine wpList_nil ?_
      refine ⟨k + 1, ⟨fun t => (([(.slice p_a L_a.length q_a), (.slice p_b L_b.length q_b), Ud, Ud, (u9 4), (Iv ((k : Int) + 1)), (.slice p_a L_a.length q_a), (Iv (L_a.length : Int)), (.slice p_b L_b.length q_b), (Iv (L_b.length : Int)), (Bo (icmp .neq (L_a.length : Int) (L_b.length : Int))), (Iv (k : Int)), (.slice p_a L_a.length q_a), (Iv (L_a.length : Int)), (Bo (icmp .lss (k : Int) (L_a.length : Int))), (Iv (k : Int)), (Iv ((k : Int) + 1)), v23, v24, v25, v26, v27, v28, v29, v30, v31, (Bo (!(sameSt el1 el2)))] : List Value)[t]?).getD undef, ?_, (Ext.gr (Ext.gr E11 E20) E34), ?_⟩, ?_⟩
      · first | rfl | (simp only [Nat.cast_add, Nat.cast_one, Int.natCast_add, Int.natCast_one]; rfl)
      · exact ⟨by omega, SameXTo.step hs (by assumption) (by assumption) (by simp_all)⟩
      · omega
    have c16' := c16
    (try simp only [icmp, Bool.and_eq_true, Bool.or_eq_true, Bool.and_eq_false_iff, Bool.or_eq_false_iff, Bool.not_eq_true', Bool.not_eq_false', decide_eq_true_eq, decide_eq_false_iff_not, beq_iff_eq, bne_iff_ne, beq_eq_false_iff_ne, bne_eq_false_iff_eq] at c16')
    refine wp_exit ?_
    refine hK7 _ _ ?_
    refine wp_seq_k fun K41 hK41 => ?_
    refine wp_region_lit ?_
    refine q_is rfl rfl (does_assign (u := (Bo true)) (ev rfl)) (by dsimp only [List.set]; try rfl) ?_
    refine wpList_nil (hK41 _ _ ?_)
    refine wp_ret ?_
    refine ret_val (v := (Bo true)) (res_T rfl (slot rfl)) X13 ?_
    have x42 : (sameX sameSt L_a L_b) = true := by first | exact (sameX_len (by omega)) | exact (sameX_not (by omega) (by assumption) (by assumption) (by simp_all)) | exact (sameX_all (by omega) (by omega) hs)
    exact (by first | rfl | rw [x42])

/- laws.eqProgram -/
theorem c_laws_eqProgram (a : List Value) (A_a : ProgT) (b : List Value) (A_b : ProgT) (w : World) (hv_a : RProgT w A_a a) (hv_b : RProgT w A_b b) : Gives Try.prog 19 #[(.agg a.toArray), (.agg b.toArray)] w (fun v w' => v = (Bo (samePr A_a A_b))) := by
  obtain ⟨y1, rfl, h2⟩ := hv_a
  obtain ⟨y3, rfl, h4⟩ := hv_b
  have hs7 := h2; have hs7l := Sl.len h2; obtain ⟨p5, q6, rfl⟩ := Sl.shape h2
  have hs10 := h4; have hs10l := Sl.len h4; obtain ⟨p8, q9, rfl⟩ := Sl.shape h4
  refine enter [(.agg #[(Iv A_a.points), (Iv A_a.values), (.slice p5 A_a.steps.length q6)]), (.agg #[(Iv A_b.points), (Iv A_b.values), (.slice p8 A_b.steps.length q9)]), Ud, Ud, Ud, Ud, Ud, Ud, Ud, Ud, Ud, Ud, Ud, Ud, Ud, Ud, Ud, Ud, Ud, Ud, Ud] Try.func19 rfl Try.ntmps19 rfl ?_
  refine wp_seq_k fun K11 hK11 => ?_
  refine wp_region_lit ?_
  refine seqd rfl rfl (does_box (u := (.agg #[(Iv A_a.points), (Iv A_a.values), (.slice p5 A_a.steps.length q6)])) (ev rfl)) ?_; rintro _ w16 ⟨b12, rfl, hb13, hB14, E15⟩
  have g17 : w.heap.size ≤ b12 := Nat.le_trans (Below.size (Ext.refl w)) hb13
  change Blk _ _ [(Iv A_a.points), (Iv A_a.values), (.slice p5 A_a.steps.length q6)] at hB14
  have X18 := Ext.gr (Ext.refl w) E15
  show wpList _ _ _ _ (fr [(.agg #[(Iv A_a.points), (Iv A_a.values), (.slice p5 A_a.steps.length q6)]), (.agg #[(Iv A_b.points), (Iv A_b.values), (.slice p8 A_b.steps.length q9)]), (Pt b12 0), Ud, Ud, Ud, Ud, Ud, Ud, Ud, Ud, Ud, Ud, Ud, Ud, Ud, Ud, Ud, Ud, Ud, Ud]) _
  refine seqd rfl rfl (does_box (u := (.agg #[(Iv A_b.points), (Iv A_b.values), (.slice p8 A_b.steps.length q9)])) (ev rfl)) ?_; rintro _ w23 ⟨b19, rfl, hb20, hB21, E22⟩
  have n24 : b12 < b19 := Nat.lt_of_lt_of_le (Blk.lt hB14) hb20
  have g25 : w.heap.size ≤ b19 := Nat.le_trans (Below.size X18) hb20
  change Blk _ _ [(Iv A_b.points), (Iv A_b.values), (.slice p8 A_b.steps.length q9)] at hB21
  have X26 := Ext.gr X18 E22
  show wpList _ _ _ _ (fr [(.agg #[(Iv A_a.points), (Iv A_a.values), (.slice p5 A_a.steps.length q6)]), (.agg #[(Iv A_b.points), (Iv A_b.values), (.slice p8 A_b.steps.length q9)]), (Pt b12 0), (Pt b19 0), Ud, Ud, Ud, Ud, Ud, Ud, Ud, Ud, Ud, Ud, Ud, Ud, Ud, Ud, Ud, Ud, Ud]) _
  refine q_is (l' := [(.agg #[(Iv A_a.points), (Iv A_a.values), (.slice p5 A_a.steps.length q6)]), (.agg #[(Iv A_b.points), (Iv A_b.values), (.slice p8 A_b.steps.length q9)]), (Pt b12 0), (Pt b19 0), (Bo false), Ud, Ud, Ud, Ud, Ud, Ud, Ud, Ud, Ud, Ud, Ud, Ud, Ud, Ud, Ud, Ud]) rfl rfl (does_assign (u := (Bo false)) (ev rfl)) rfl ?_
  refine wpList_nil (hK11 _ _ ?_)
  refine wp_seq_k fun K27 hK27 => ?_
  refine wp_seq_k fun K28 hK28 => ?_
  refine wp_region_lit ?_
  refine q_is (l' := [(.agg #[(Iv A_a.points), (Iv A_a.values), (.slice p5 A_a.steps.length q6)]), (.agg #[(Iv A_b.points), (Iv A_b.values), (.slice p8 A_b.steps.length q9)]), (Pt b12 0), (Pt b19 0), (Bo false), (Pt b12 0), Ud, Ud, Ud, Ud, Ud, Ud, Ud, Ud, Ud, Ud, Ud, Ud, Ud, Ud, Ud]) rfl rfl (does_fieldAddr (ev rfl) fa38_0) rfl ?_
  refine q_is (l' := [(.agg #[(Iv A_a.points), (Iv A_a.values), (.slice p5 A_a.steps.length q6)]), (.agg #[(Iv A_b.points), (Iv A_b.values), (.slice p8 A_b.steps.length q9)]), (Pt b12 0), (Pt b19 0), (Bo false), (Pt b12 0), (Iv A_a.points), Ud, Ud, Ud, Ud, Ud, Ud, Ud, Ud, Ud, Ud, Ud, Ud, Ud, Ud]) rfl rfl (does_load (u := (Iv A_a.points)) (ev rfl) Try.isAgg2 (Cells.at (Blk.cells (hB14.ext E22)) 0 rfl)) rfl ?_
  refine q_is (l' := [(.agg #[(Iv A_a.points), (Iv A_a.values), (.slice p5 A_a.steps.length q6)]), (.agg #[(Iv A_b.points), (Iv A_b.values), (.slice p8 A_b.steps.length q9)]), (Pt b12 0), (Pt b19 0), (Bo false), (Pt b12 0), (Iv A_a.points), (Pt b19 0), Ud, Ud, Ud, Ud, Ud, Ud, Ud, Ud, Ud, Ud, Ud, Ud, Ud]) rfl rfl (does_fieldAddr (ev rfl) fa38_0) rfl ?_
  refine q_is (l' := [(.agg #[(Iv A_a.points), (Iv A_a.values), (.slice p5 A_a.steps.length q6)]), (.agg #[(Iv A_b.points), (Iv A_b.values), (.slice p8 A_b.steps.length q9)]), (Pt b12 0), (Pt b19 0), (Bo false), (Pt b12 0), (Iv A_a.points), (Pt b19 0), (Iv A_b.points), Ud, Ud, Ud, Ud, Ud, Ud, Ud, Ud, Ud, Ud, Ud, Ud]) rfl rfl (does_load (u := (Iv A_b.points)) (ev rfl) Try.isAgg2 (Cells.at (Blk.cells hB21) 0 rfl)) rfl ?_
  refine q_is (l' := [(.agg #[(Iv A_a.points), (Iv A_a.values), (.slice p5 A_a.steps.length q6)]), (.agg #[(Iv A_b.points), (Iv A_b.values), (.slice p8 A_b.steps.length q9)]), (Pt b12 0), (Pt b19 0), (Bo false), (Pt b12 0), (Iv A_a.points), (Pt b19 0), (Iv A_b.points), (Bo (icmp .neq A_a.points A_b.points)), Ud, Ud, Ud, Ud, Ud, Ud, Ud, Ud, Ud, Ud, Ud]) rfl rfl (does_icmp (p := A_a.points) (q := A_b.points) (.inr (.inl rfl)) (ev rfl) (ev rfl)) rfl ?_
  refine wpList_nil (hK28 _ _ ?_)
  refine wp_cond_split (t := icmp .neq A_a.points A_b.points) (ev rfl) (fun c29 => ?_) (fun c29 => ?_)
  · have c29' := c29
    (try simp only [icmp, Bool.and_eq_true, Bool.or_eq_true, Bool.and_eq_false_iff, Bool.or_eq_false_iff, Bool.not_eq_true', Bool.not_eq_false', decide_eq_true_eq, decide_eq_false_iff_not, beq_iff_eq, bne_iff_ne, beq_eq_false_iff_ne, bne_eq_false_iff_eq] at c29')
    refine wp_seq_k fun K30 hK30 => ?_
    refine wp_region_lit ?_
    refine q_is (l' := [(.agg #[(Iv A_a.points), (Iv A_a.values), (.slice p5 A_a.steps.length q6)]), (.agg #[(Iv A_b.points), (Iv A_b.values), (.slice p8 A_b.steps.length q9)]), (Pt b12 0), (Pt b19 0), (Bo false), (Pt b12 0), (Iv A_a.points), (Pt b19 0), (Iv A_b.points), (Bo (icmp .neq A_a.points A_b.points)), Ud, Ud, Ud, Ud, Ud, Ud, Ud, Ud, Ud, Ud, Ud]) rfl rfl (does_assign (u := (Bo false)) (ev rfl)) rfl ?_
    refine wpList_nil (hK30 _ _ ?_)
    refine wp_ret ?_
    dsimp only [Exit.then, Exit.inBlock]
    refine ret_val (v := (Bo false)) (res_T rfl (slot rfl)) X26 ?_
    have x31 : (samePr A_a A_b) = false := by first | with_reducible rfl | (simp only [samePr, icmp, c29]; done) | (simp [samePr, icmp, c29]; done) | (revert c29; simp +contextual [samePr, icmp]; done) | (rcases c29' with hh | hh <;> simp only [hh, samePr, icmp, c29]; done) | (rcases c29' with hh | hh <;> simp_all [samePr, icmp]; done) | (rcases c29' with hh | hh | hh <;> simp_all [samePr, icmp]; done) | (rcases c29' with hh | hh | hh | hh <;> simp_all [samePr, icmp]; done) | (simp_all [samePr, icmp]; done) | rfl
    exact (by first | rfl | rw [x31])
  have c29' := c29
  (try simp only [icmp, Bool.and_eq_true, Bool.or_eq_true, Bool.and_eq_false_iff, Bool.or_eq_false_iff, Bool.not_eq_true', Bool.not_eq_false', decide_eq_true_eq, decide_eq_false_iff_not, beq_iff_eq, bne_iff_ne, beq_eq_false_iff_ne, bne_eq_false_iff_eq] at c29')
  refine wp_skip (hK27 _ _ ?_)
  refine wp_seq_k fun K32 hK32 => ?_
  refine wp_seq_k fun K33 hK33 => ?_
  refine wp_region_lit ?_
  refine q_is (l' := [(.agg #[(Iv A_a.points), (Iv A_a.values), (.slice p5 A_a.steps.length q6)]), (.agg #[(Iv A_b.points), (Iv A_b.values), (.slice p8 A_b.steps.length q9)]), (Pt b12 0), (Pt b19 0), (Bo false), (Pt b12 0), (Iv A_a.points), (Pt b19 0), (Iv A_b.points), (Bo (icmp .neq A_a.points A_b.points)), (Pt b12 1), Ud, Ud, Ud, Ud, Ud, Ud, Ud, Ud, Ud, Ud]) rfl rfl (does_fieldAddr (ev rfl) fa38_1) rfl ?_
  refine q_is (l' := [(.agg #[(Iv A_a.points), (Iv A_a.values), (.slice p5 A_a.steps.length q6)]), (.agg #[(Iv A_b.points), (Iv A_b.values), (.slice p8 A_b.steps.length q9)]), (Pt b12 0), (Pt b19 0), (Bo false), (Pt b12 0), (Iv A_a.points), (Pt b19 0), (Iv A_b.points), (Bo (icmp .neq A_a.points A_b.points)), (Pt b12 1), (Iv A_a.values), Ud, Ud, Ud, Ud, Ud, Ud, Ud, Ud, Ud]) rfl rfl (does_load (u := (Iv A_a.values)) (ev rfl) Try.isAgg2 (Cells.at (Blk.cells (hB14.ext E22)) 1 rfl)) rfl ?_
  refine q_is (l' := [(.agg #[(Iv A_a.points), (Iv A_a.values), (.slice p5 A_a.steps.length q6)]), (.agg #[(Iv A_b.points), (Iv A_b.values), (.slice p8 A_b.steps.length q9)]), (Pt b12 0), (Pt b19 0), (Bo false), (Pt b12 0), (Iv A_a.points), (Pt b19 0), (Iv A_b.points), (Bo (icmp .neq A_a.points A_b.points)), (Pt b12 1), (Iv A_a.values), (Pt b19 1), Ud, Ud, Ud, Ud, Ud, Ud, Ud, Ud]) rfl rfl (does_fieldAddr (ev rfl) fa38_1) rfl ?_
  refine q_is (l' := [(.agg #[(Iv A_a.points), (Iv A_a.values), (.slice p5 A_a.steps.length q6)]), (.agg #[(Iv A_b.points), (Iv A_b.values), (.slice p8 A_b.steps.length q9)]), (Pt b12 0), (Pt b19 0), (Bo false), (Pt b12 0), (Iv A_a.points), (Pt b19 0), (Iv A_b.points), (Bo (icmp .neq A_a.points A_b.points)), (Pt b12 1), (Iv A_a.values), (Pt b19 1), (Iv A_b.values), Ud, Ud, Ud, Ud, Ud, Ud, Ud]) rfl rfl (does_load (u := (Iv A_b.values)) (ev rfl) Try.isAgg2 (Cells.at (Blk.cells hB21) 1 rfl)) rfl ?_
  refine q_is (l' := [(.agg #[(Iv A_a.points), (Iv A_a.values), (.slice p5 A_a.steps.length q6)]), (.agg #[(Iv A_b.points), (Iv A_b.values), (.slice p8 A_b.steps.length q9)]), (Pt b12 0), (Pt b19 0), (Bo false), (Pt b12 0), (Iv A_a.points), (Pt b19 0), (Iv A_b.points), (Bo (icmp .neq A_a.points A_b.points)), (Pt b12 1), (Iv A_a.values), (Pt b19 1), (Iv A_b.values), (Bo (icmp .neq A_a.values A_b.values)), Ud, Ud, Ud, Ud, Ud, Ud]) rfl rfl (does_icmp (p := A_a.values) (q := A_b.values) (.inr (.inl rfl)) (ev rfl) (ev rfl)) rfl ?_
  refine wpList_nil (hK33 _ _ ?_)
  refine wp_cond_split (t := icmp .neq A_a.values A_b.values) (ev rfl) (fun c34 => ?_) (fun c34 => ?_)
  · have c34' := c34
    (try simp only [icmp, Bool.and_eq_true, Bool.or_eq_true, Bool.and_eq_false_iff, Bool.or_eq_false_iff, Bool.not_eq_true', Bool.not_eq_false', decide_eq_true_eq, decide_eq_false_iff_not, beq_iff_eq, bne_iff_ne, beq_eq_false_iff_ne, bne_eq_false_iff_eq] at c34')
    refine wp_seq_k fun K35 hK35 => ?_
    refine wp_region_lit ?_
    refine q_is (l' := [(.agg #[(Iv A_a.points), (Iv A_a.values), (.slice p5 A_a.steps.length q6)]), (.agg #[(Iv A_b.points), (Iv A_b.values), (.slice p8 A_b.steps.length q9)]), (Pt b12 0), (Pt b19 0), (Bo false), (Pt b12 0), (Iv A_a.points), (Pt b19 0), (Iv A_b.points), (Bo (icmp .neq A_a.points A_b.points)), (Pt b12 1), (Iv A_a.values), (Pt b19 1), (Iv A_b.values), (Bo (icmp .neq A_a.values A_b.values)), Ud, Ud, Ud, Ud, Ud, Ud]) rfl rfl (does_assign (u := (Bo false)) (ev rfl)) rfl ?_
    refine wpList_nil (hK35 _ _ ?_)
    refine wp_ret ?_
    dsimp only [Exit.then, Exit.inBlock]
    refine ret_val (v := (Bo false)) (res_T rfl (slot rfl)) X26 ?_
    have x36 : (samePr A_a A_b) = false := by first | with_reducible rfl | (simp only [samePr, icmp, c29, c34]; done) | (simp [samePr, icmp, c29, c34]; done) | (revert c29 c34; simp +contextual [samePr, icmp]; done) | (rcases c29' with hh | hh <;> simp only [hh, samePr, icmp, c29, c34]; done) | (rcases c34' with hh | hh <;> simp only [hh, samePr, icmp, c29, c34]; done) | (rcases c34' with hh | hh <;> simp_all [samePr, icmp]; done) | (rcases c34' with hh | hh | hh <;> simp_all [samePr, icmp]; done) | (rcases c34' with hh | hh | hh | hh <;> simp_all [samePr, icmp]; done) | (simp_all [samePr, icmp]; done) | rfl
    exact (by first | rfl | rw [x36])
  have c34' := c34
  (try simp only [icmp, Bool.and_eq_true, Bool.or_eq_true, Bool.and_eq_false_iff, Bool.or_eq_false_iff, Bool.not_eq_true', Bool.not_eq_false', decide_eq_true_eq, decide_eq_false_iff_not, beq_iff_eq, bne_iff_ne, beq_eq_false_iff_ne, bne_eq_false_iff_eq] at c34')
  refine wp_skip (hK32 _ _ ?_)
  refine wp_seq_k fun K37 hK37 => ?_
  refine wp_seq_k fun K38 hK38 => ?_
  refine wp_region_lit ?_
  refine q_is (l' := [(.agg #[(Iv A_a.points), (Iv A_a.values), (.slice p5 A_a.steps.length q6)]), (.agg #[(Iv A_b.points), (Iv A_b.values), (.slice p8 A_b.steps.length q9)]), (Pt b12 0), (Pt b19 0), (Bo false), (Pt b12 0), (Iv A_a.points), (Pt b19 0), (Iv A_b.points), (Bo (icmp .neq A_a.points A_b.points)), (Pt b12 1), (Iv A_a.values), (Pt b19 1), (Iv A_b.values), (Bo (icmp .neq A_a.values A_b.values)), (Pt b12 2), Ud, Ud, Ud, Ud, Ud]) rfl rfl (does_fieldAddr (ev rfl) fa38_2) rfl ?_
  refine q_is (l' := [(.agg #[(Iv A_a.points), (Iv A_a.values), (.slice p5 A_a.steps.length q6)]), (.agg #[(Iv A_b.points), (Iv A_b.values), (.slice p8 A_b.steps.length q9)]), (Pt b12 0), (Pt b19 0), (Bo false), (Pt b12 0), (Iv A_a.points), (Pt b19 0), (Iv A_b.points), (Bo (icmp .neq A_a.points A_b.points)), (Pt b12 1), (Iv A_a.values), (Pt b19 1), (Iv A_b.values), (Bo (icmp .neq A_a.values A_b.values)), (Pt b12 2), (.slice p5 A_a.steps.length q6), Ud, Ud, Ud, Ud]) rfl rfl (does_load (u := (.slice p5 A_a.steps.length q6)) (ev rfl) Try.isAgg36 (Cells.at (Blk.cells (hB14.ext E22)) 2 rfl)) rfl ?_
  refine q_is (l' := [(.agg #[(Iv A_a.points), (Iv A_a.values), (.slice p5 A_a.steps.length q6)]), (.agg #[(Iv A_b.points), (Iv A_b.values), (.slice p8 A_b.steps.length q9)]), (Pt b12 0), (Pt b19 0), (Bo false), (Pt b12 0), (Iv A_a.points), (Pt b19 0), (Iv A_b.points), (Bo (icmp .neq A_a.points A_b.points)), (Pt b12 1), (Iv A_a.values), (Pt b19 1), (Iv A_b.values), (Bo (icmp .neq A_a.values A_b.values)), (Pt b12 2), (.slice p5 A_a.steps.length q6), (Pt b19 2), Ud, Ud, Ud]) rfl rfl (does_fieldAddr (ev rfl) fa38_2) rfl ?_
  refine q_is (l' := [(.agg #[(Iv A_a.points), (Iv A_a.values), (.slice p5 A_a.steps.length q6)]), (.agg #[(Iv A_b.points), (Iv A_b.values), (.slice p8 A_b.steps.length q9)]), (Pt b12 0), (Pt b19 0), (Bo false), (Pt b12 0), (Iv A_a.points), (Pt b19 0), (Iv A_b.points), (Bo (icmp .neq A_a.points A_b.points)), (Pt b12 1), (Iv A_a.values), (Pt b19 1), (Iv A_b.values), (Bo (icmp .neq A_a.values A_b.values)), (Pt b12 2), (.slice p5 A_a.steps.length q6), (Pt b19 2), (.slice p8 A_b.steps.length q9), Ud, Ud]) rfl rfl (does_load (u := (.slice p8 A_b.steps.length q9)) (ev rfl) Try.isAgg36 (Cells.at (Blk.cells hB21) 2 rfl)) rfl ?_
  refine seqd rfl rfl (does_call (args := #[(.slice p5 A_a.steps.length q6), (.slice p8 A_b.steps.length q9)]) cal52 (evs rfl) (c_laws_eqStepS (.slice p5 A_a.steps.length q6) A_a.steps (.slice p8 A_b.steps.length q9) A_b.steps _ (Sl.ext hs7 RStepT.mono X26) (Sl.ext hs10 RStepT.mono X26))) ?_; rintro _ w40 ⟨E39, rfl⟩
  have X41 := Ext.gr X26 E39
  show wpList _ _ _ _ (fr [(.agg #[(Iv A_a.points), (Iv A_a.values), (.slice p5 A_a.steps.length q6)]), (.agg #[(Iv A_b.points), (Iv A_b.values), (.slice p8 A_b.steps.length q9)]), (Pt b12 0), (Pt b19 0), (Bo false), (Pt b12 0), (Iv A_a.points), (Pt b19 0), (Iv A_b.points), (Bo (icmp .neq A_a.points A_b.points)), (Pt b12 1), (Iv A_a.values), (Pt b19 1), (Iv A_b.values), (Bo (icmp .neq A_a.values A_b.values)), (Pt b12 2), (.slice p5 A_a.steps.length q6), (Pt b19 2), (.slice p8 A_b.steps.length q9), (Bo (sameX sameSt A_a.steps A_b.steps)), Ud]) _
  refine q_is (l' := [(.agg #[(Iv A_a.points), (Iv A_a.values), (.slice p5 A_a.steps.length q6)]), (.agg #[(Iv A_b.points), (Iv A_b.values), (.slice p8 A_b.steps.length q9)]), (Pt b12 0), (Pt b19 0), (Bo false), (Pt b12 0), (Iv A_a.points), (Pt b19 0), (Iv A_b.points), (Bo (icmp .neq A_a.points A_b.points)), (Pt b12 1), (Iv A_a.values), (Pt b19 1), (Iv A_b.values), (Bo (icmp .neq A_a.values A_b.values)), (Pt b12 2), (.slice p5 A_a.steps.length q6), (Pt b19 2), (.slice p8 A_b.steps.length q9), (Bo (sameX sameSt A_a.steps A_b.steps)), (Bo (!(sameX sameSt A_a.steps A_b.steps)))]) rfl rfl (does_not (ev rfl)) rfl ?_
  refine wpList_nil (hK38 _ _ ?_)
  refine wp_cond_split (t := !(sameX sameSt A_a.steps A_b.steps)) (ev rfl) (fun c42 => ?_) (fun c42 => ?_)
  · rw [Bool.not_eq_true'] at c42
    have c42' := c42
    refine wp_seq_k fun K43 hK43 => ?_
    refine wp_region_lit ?_
    refine q_is (l' := [(.agg #[(Iv A_a.points), (Iv A_a.values), (.slice p5 A_a.steps.length q6)]), (.agg #[(Iv A_b.points), (Iv A_b.values), (.slice p8 A_b.steps.length q9)]), (Pt b12 0), (Pt b19 0), (Bo false), (Pt b12 0), (Iv A_a.points), (Pt b19 0), (Iv A_b.points), (Bo (icmp .neq A_a.points A_b.points)), (Pt b12 1), (Iv A_a.values), (Pt b19 1), (Iv A_b.values), (Bo (icmp .neq A_a.values A_b.values)), (Pt b12 2), (.slice p5 A_a.steps.length q6), (Pt b19 2), (.slice p8 A_b.steps.length q9), (Bo (sameX sameSt A_a.steps A_b.steps)), (Bo (!(sameX sameSt A_a.steps A_b.steps)))]) rfl rfl (does_assign (u := (Bo false)) (ev rfl)) rfl ?_
    refine wpList_nil (hK43 _ _ ?_)
    refine wp_ret ?_
    dsimp only [Exit.then, Exit.inBlock]
    refine ret_val (v := (Bo false)) (res_T rfl (slot rfl)) X41 ?_
    have x44 : (samePr A_a A_b) = false := by first | with_reducible rfl | (simp only [samePr, icmp, c29, c34, c42]; done) | (simp [samePr, icmp, c29, c34, c42]; done) | (revert c29 c34 c42; simp +contextual [samePr, icmp]; done) | (rcases c29' with hh | hh <;> simp only [hh, samePr, icmp, c29, c34, c42]; done) | (rcases c34' with hh | hh <;> simp only [hh, samePr, icmp, c29, c34, c42]; done) | (rcases c42' with hh | hh <;> simp only [hh, samePr, icmp, c29, c34, c42]; done) | (rcases c42' with hh | hh <;> simp_all [samePr, icmp]; done) | (rcases c42' with hh | hh | hh <;> simp_all [samePr, icmp]; done) | (rcases c42' with hh | hh | hh | hh <;> simp_all [samePr, icmp]; done) | (simp_all [samePr, icmp]; done) | rfl
    exact (by first | rfl | rw [x44])
  rw [Bool.not_eq_false'] at c42
  have c42' := c42
  refine wp_skip (hK37 _ _ ?_)
  refine wp_seq_k fun K45 hK45 => ?_
  refine wp_region_lit ?_
  refine q_is (l' := [(.agg #[(Iv A_a.points), (Iv A_a.values), (.slice p5 A_a.steps.length q6)]), (.agg #[(Iv A_b.points), (Iv A_b.values), (.slice p8 A_b.steps.length q9)]), (Pt b12 0), (Pt b19 0), (Bo true), (Pt b12 0), (Iv A_a.points), (Pt b19 0), (Iv A_b.points), (Bo (icmp .neq A_a.points A_b.points)), (Pt b12 1), (Iv A_a.values), (Pt b19 1), (Iv A_b.values), (Bo (icmp .neq A_a.values A_b.values)), (Pt b12 2), (.slice p5 A_a.steps.length q6), (Pt b19 2), (.slice p8 A_b.steps.length q9), (Bo (sameX sameSt A_a.steps A_b.steps)), (Bo (!(sameX sameSt A_a.steps A_b.steps)))]) rfl rfl (does_assign (u := (Bo true)) (ev rfl)) rfl ?_
  refine wpList_nil (hK45 _ _ ?_)
  refine wp_ret ?_
  refine ret_val (v := (Bo true)) (res_T rfl (slot rfl)) X41 ?_
  have x46 : (samePr A_a A_b) = true := by first | with_reducible rfl | (simp only [samePr, icmp, c29, c34, c42]; done) | (simp [samePr, icmp, c29, c34, c42]; done) | (revert c29 c34 c42; simp +contextual [samePr, icmp]; done) | (rcases c29' with hh | hh <;> simp only [hh, samePr, icmp, c29, c34, c42]; done) | (rcases c34' with hh | hh <;> simp only [hh, samePr, icmp, c29, c34, c42]; done) | (rcases c42' with hh | hh <;> simp only [hh, samePr, icmp, c29, c34, c42]; done) | (rcases c42' with hh | hh <;> simp_all [samePr, icmp]; done) | (rcases c42' with hh | hh | hh <;> simp_all [samePr, icmp]; done) | (rcases c42' with hh | hh | hh | hh <;> simp_all [samePr, icmp]; done) | (simp_all [samePr, icmp]; done) | rfl
  exact (by first | rfl | rw [x46])

/- spec.l00In -/
theorem c_spec_l00In (n : Int) (low : Int) (high : Int) (w : World) : Gives Try.prog 97 #[(Iv n), (Iv low), (Iv high)] w (fun v w' => v = (Bo (inI n low high))) := by
  refine enter [(Iv n), (Iv low), (Iv high), Ud, Ud, Ud, Ud, Ud, Ud, Ud, Ud, Ud, Ud, Ud, Ud] Try.func97 rfl Try.ntmps97 rfl ?_
  refine wp_seq_k fun K1 hK1 => ?_
  refine wp_region_lit ?_
  refine q_is (l' := [(Iv n), (Iv low), (Iv high), Ud, Ud, Ud, (Bo false), Ud, Ud, Ud, Ud, Ud, Ud, Ud, Ud]) rfl rfl (does_assign (u := (Bo false)) (ev rfl)) rfl ?_
  refine wpList_nil (hK1 _ _ ?_)
  refine wp_seq_k fun K2 hK2 => ?_
  obtain ⟨β1, hβ1⟩ : ∃ b : Bool, b = ((icmp .geq n low) && (icmp .leq n high)) := ⟨_, rfl⟩
  refine region_text (
    [Fact.pure [] (fun v => v = (Iv n)),
    Fact.pure [] (fun v => v = (Iv low)),
    Fact.pure [7, 8] (fun v => v = (Bo (icmp .geq n low))),
    Fact.pure [9] (fun v => v = (Bo (icmp .geq n low))),
    Fact.pure [10] (fun v => (icmp .geq n low) = true → v = (Iv n)),
    Fact.pure [10] (fun v => (icmp .geq n low) = true → v = (Iv high)),
    Fact.pure [11, 12, 10] (fun v => (icmp .geq n low) = true → v = (Bo (icmp .leq n high))),
    Fact.pure [10, 13] (fun v => v = (Bo β1))]) (by simp [Fact.pure, Fact.mem]) ?_
  refine RW_d (fun v3 => [(Iv n), (Iv low), (Iv high), Ud, Ud, Ud, (Bo false), v3, Ud, Ud, Ud, Ud, Ud, Ud, Ud]) rfl (fun _ => rfl) (fun u hu hF => ?_) (fun v3 => ?_)
  · clear hF
    refine doesG_un rfl ?_
    refine (does_move (u := (Iv n)) (ev rfl)).mono ?_; rintro _ _ ⟨rfl, rfl⟩
    exact ⟨rfl, Ext.refl _⟩
  refine RW_d (fun v4 => [(Iv n), (Iv low), (Iv high), Ud, Ud, Ud, (Bo false), v3, v4, Ud, Ud, Ud, Ud, Ud, Ud]) rfl (fun _ => rfl) (fun u hu hF => ?_) (fun v4 => ?_)
  · clear hF
    refine doesG_un rfl ?_
    refine (does_move (u := (Iv low)) (ev rfl)).mono ?_; rintro _ _ ⟨rfl, rfl⟩
    exact ⟨rfl, Ext.refl _⟩
  refine RW_d (fun v5 => [(Iv n), (Iv low), (Iv high), Ud, Ud, Ud, (Bo false), v3, v4, v5, Ud, Ud, Ud, Ud, Ud]) rfl (fun _ => rfl) (fun u hu hF => ?_) (fun v5 => ?_)
  · have h7_ : v3 = (Iv n) := hF.1
    have h8_ : v4 = (Iv low) := hF.2.1
    clear hF
    refine doesG_un rfl ?_
    obtain rfl := h7_
    obtain rfl := h8_
    refine (does_icmp (p := n) (q := low) (.inr (.inr (.inr (.inr (.inr rfl))))) (ev rfl) (ev rfl)).mono ?_; rintro _ _ ⟨rfl, rfl⟩
    exact ⟨rfl, Ext.refl _⟩
  refine RW_d (fun v6 => [(Iv n), (Iv low), (Iv high), Ud, Ud, Ud, (Bo false), v3, v4, v5, v6, Ud, Ud, Ud, Ud]) rfl (fun _ => rfl) (fun u hu hF => ?_) (fun v6 => ?_)
  · have h9_ : v5 = (Bo (icmp .geq n low)) := hF.1
    clear hF
    refine doesG_un rfl ?_
    obtain rfl := h9_
    refine (does_move (u := (Bo (icmp .geq n low))) (ev rfl)).mono ?_; rintro _ _ ⟨rfl, rfl⟩
    exact ⟨rfl, Ext.refl _⟩
  refine RW_d (fun v7 => [(Iv n), (Iv low), (Iv high), Ud, Ud, Ud, (Bo false), v3, v4, v5, v6, v7, Ud, Ud, Ud]) rfl (fun _ => rfl) (fun u hu hF => ?_) (fun v7 => ?_)
  · have h10_ : v6 = (Bo (icmp .geq n low)) := hF.1
    clear hF
    obtain rfl := h10_
    refine doesG_g (b := (icmp .geq n low)) rfl (yld rfl rfl) (fun hg1 => ?_) (fun hc => ⟨fun hg1 => absurd hg1 hc, Ext.refl _⟩)
    refine (does_move (u := (Iv n)) (ev rfl)).mono ?_; rintro _ _ ⟨rfl, rfl⟩
    exact ⟨fun _ => rfl, Ext.refl _⟩
  refine RW_d (fun v8 => [(Iv n), (Iv low), (Iv high), Ud, Ud, Ud, (Bo false), v3, v4, v5, v6, v7, v8, Ud, Ud]) rfl (fun _ => rfl) (fun u hu hF => ?_) (fun v8 => ?_)
  · have h10_ : v6 = (Bo (icmp .geq n low)) := hF.1
    clear hF
    obtain rfl := h10_
    refine doesG_g (b := (icmp .geq n low)) rfl (yld rfl rfl) (fun hg1 => ?_) (fun hc => ⟨fun hg1 => absurd hg1 hc, Ext.refl _⟩)
    refine (does_move (u := (Iv high)) (ev rfl)).mono ?_; rintro _ _ ⟨rfl, rfl⟩
    exact ⟨fun _ => rfl, Ext.refl _⟩
  refine RW_d (fun v9 => [(Iv n), (Iv low), (Iv high), Ud, Ud, Ud, (Bo false), v3, v4, v5, v6, v7, v8, v9, Ud]) rfl (fun _ => rfl) (fun u hu hF => ?_) (fun v9 => ?_)
  · have h11_ : (icmp .geq n low) = true → v7 = (Iv n) := hF.1
    have h12_ : (icmp .geq n low) = true → v8 = (Iv high) := hF.2.1
    have h10_ : v6 = (Bo (icmp .geq n low)) := hF.2.2.1
    clear hF
    obtain rfl := h10_
    refine doesG_g (b := (icmp .geq n low)) rfl (yld rfl rfl) (fun hg1 => ?_) (fun hc => ⟨fun hg1 => absurd hg1 hc, Ext.refl _⟩)
    obtain rfl := h11_ hg1
    obtain rfl := h12_ hg1
    refine (does_icmp (p := n) (q := high) (.inr (.inr (.inr (.inl rfl)))) (ev rfl) (ev rfl)).mono ?_; rintro _ _ ⟨rfl, rfl⟩
    exact ⟨fun _ => rfl, Ext.refl _⟩
  refine RW_d (fun v10 => [(Iv n), (Iv low), (Iv high), Ud, Ud, Ud, (Bo false), v3, v4, v5, v6, v7, v8, v9, v10]) rfl (fun _ => rfl) (fun u hu hF => ?_) (fun v10 => ?_)
  · have h10_ : v6 = (Bo (icmp .geq n low)) := hF.1
    have h13_ : (icmp .geq n low) = true → v9 = (Bo (icmp .leq n high)) := hF.2.1
    clear hF
    refine doesG_un rfl ?_
    skip
    obtain rfl := h10_
    refine (does_pick (b := (icmp .geq n low)) (ev rfl) (ev rfl) (ev rfl)).mono ?_; rintro _ _ ⟨rfl, rfl⟩; refine ⟨?_, Ext.refl _⟩; rw [hβ1]; skip
    cases hbb : (icmp .geq n low) <;> simp [hbb] at h13_ ⊢
    all_goals (first | rfl | (subst h13_; rfl) | simp_all)
  refine RW_fin ?_; intro w11 E12 hP13
  obtain ⟨⟨⟨⟨⟨⟨⟨⟨-, -⟩, -⟩, -⟩, -⟩, -⟩, -⟩, -⟩, q14⟩ := hP13
  have X15 := Ext.gr (Ext.refl w) E12
  have q14 : v10 = (Bo β1) := q14
  obtain rfl := q14
  show wpList _ _ _ _ (fr [(Iv n), (Iv low), (Iv high), Ud, Ud, Ud, (Bo false), v3, v4, v5, v6, v7, v8, v9, (Bo β1)]) _
  refine q_is (l' := [(Iv n), (Iv low), (Iv high), Ud, Ud, Ud, (Bo β1), v3, v4, v5, v6, v7, v8, v9, (Bo β1)]) rfl rfl (does_assign (u := (Bo β1)) (ev rfl)) rfl ?_
  refine wpList_nil (hK2 _ _ ?_)
  refine wp_ret ?_
  refine ret_val (v := (Bo β1)) (res_T rfl (slot rfl)) X15 ?_
  have x16 : (inI n low high) = β1 := by first | with_reducible rfl | (simp only [inI, hβ1]; done) | (simp [inI, hβ1]; done) | rfl
  exact (by first | rfl | rw [x16])

/- spec.l02Leaf -/
theorem c_spec_l02Leaf (kind : Int) (w : World) : Gives Try.prog 103 #[(Iv kind)] w (fun v w' => v = (Bo (inI kind 0 4))) := by
  refine enter [(Iv kind), Ud, Ud, Ud, Ud] Try.func103 rfl Try.ntmps103 rfl ?_
  refine wp_seq_k fun K1 hK1 => ?_
  refine wp_region_lit ?_
  refine q_is (l' := [(Iv kind), Ud, (Bo false), Ud, Ud]) rfl rfl (does_assign (u := (Bo false)) (ev rfl)) rfl ?_
  refine wpList_nil (hK1 _ _ ?_)
  refine wp_seq_k fun K2 hK2 => ?_
  refine wp_region_lit ?_
  refine q_is (l' := [(Iv kind), Ud, (Bo false), (Iv kind), Ud]) rfl rfl (does_move (u := (Iv kind)) (ev rfl)) rfl ?_
  refine seqd rfl rfl (does_call (args := #[(Iv kind), (Iv 0), (Iv 4)]) cal97 (evs rfl) (c_spec_l00In kind 0 4 _)) ?_; rintro _ w4 ⟨E3, rfl⟩
  have X5 := Ext.gr (Ext.refl w) E3
  show wpList _ _ _ _ (fr [(Iv kind), Ud, (Bo false), (Iv kind), (Bo (inI kind 0 4))]) _
  refine q_is (l' := [(Iv kind), Ud, (Bo (inI kind 0 4)), (Iv kind), (Bo (inI kind 0 4))]) rfl rfl (does_assign (u := (Bo (inI kind 0 4))) (ev rfl)) rfl ?_
  refine wpList_nil (hK2 _ _ ?_)
  refine wp_ret ?_
  refine ret_val (v := (Bo (inI kind 0 4))) (res_T rfl (slot rfl)) X5 ?_
  exact rfl

/- spec.l02Two -/
theorem c_spec_l02Two (kind : Int) (w : World) : Gives Try.prog 104 #[(Iv kind)] w (fun v w' => v = (Bo (inI kind 5 8))) := by
  refine enter [(Iv kind), Ud, Ud, Ud, Ud] Try.func104 rfl Try.ntmps104 rfl ?_
  refine wp_seq_k fun K1 hK1 => ?_
  refine wp_region_lit ?_
  refine q_is (l' := [(Iv kind), Ud, (Bo false), Ud, Ud]) rfl rfl (does_assign (u := (Bo false)) (ev rfl)) rfl ?_
  refine wpList_nil (hK1 _ _ ?_)
  refine wp_seq_k fun K2 hK2 => ?_
  refine wp_region_lit ?_
  refine q_is (l' := [(Iv kind), Ud, (Bo false), (Iv kind), Ud]) rfl rfl (does_move (u := (Iv kind)) (ev rfl)) rfl ?_
  refine seqd rfl rfl (does_call (args := #[(Iv kind), (Iv 5), (Iv 8)]) cal97 (evs rfl) (c_spec_l00In kind 5 8 _)) ?_; rintro _ w4 ⟨E3, rfl⟩
  have X5 := Ext.gr (Ext.refl w) E3
  show wpList _ _ _ _ (fr [(Iv kind), Ud, (Bo false), (Iv kind), (Bo (inI kind 5 8))]) _
  refine q_is (l' := [(Iv kind), Ud, (Bo (inI kind 5 8)), (Iv kind), (Bo (inI kind 5 8))]) rfl rfl (does_assign (u := (Bo (inI kind 5 8))) (ev rfl)) rfl ?_
  refine wpList_nil (hK2 _ _ ?_)
  refine wp_ret ?_
  refine ret_val (v := (Bo (inI kind 5 8))) (res_T rfl (slot rfl)) X5 ?_
  exact rfl

/- spec.l02Count -/
theorem c_spec_l02Count (kind : Int) (w : World) : Gives Try.prog 83 #[(Iv kind)] w (fun v w' => v = (Iv (rlNum kind))) := by
  refine enter [(Iv kind), Ud, Ud, Ud, Ud, Ud, Ud, Ud, Ud, Ud, Ud, Ud, Ud, Ud, Ud, Ud, Ud, Ud, Ud, Ud, Ud] Try.func83 rfl Try.ntmps83 rfl ?_
  refine wp_seq_k fun K1 hK1 => ?_
  refine wp_region_lit ?_
  refine q_is (l' := [(Iv kind), Ud, (Iv 0), Ud, Ud, Ud, Ud, Ud, Ud, Ud, Ud, Ud, Ud, Ud, Ud, Ud, Ud, Ud, Ud, Ud, Ud]) rfl rfl (does_assign (u := (Iv 0)) (ev rfl)) rfl ?_
  refine wpList_nil (hK1 _ _ ?_)
  refine wp_seq_k fun K2 hK2 => ?_
  refine wp_seq_k fun K3 hK3 => ?_
  refine wp_region_lit ?_
  refine q_is (l' := [(Iv kind), Ud, (Iv 0), (Iv kind), Ud, Ud, Ud, Ud, Ud, Ud, Ud, Ud, Ud, Ud, Ud, Ud, Ud, Ud, Ud, Ud, Ud]) rfl rfl (does_move (u := (Iv kind)) (ev rfl)) rfl ?_
  refine wpList_nil (hK3 _ _ ?_)
  refine wp_block ?_
  refine wp_seq_k fun K4 hK4 => ?_
  refine wp_seq_k fun K5 hK5 => ?_
  refine wp_region_lit ?_
  refine q_is (l' := [(Iv kind), Ud, (Iv 0), (Iv kind), Ud, (Bo (icmp .eql kind 0)), Ud, Ud, Ud, Ud, Ud, Ud, Ud, Ud, Ud, Ud, Ud, Ud, Ud, Ud, Ud]) rfl rfl (does_icmp (p := kind) (q := 0) (.inl rfl) (ev rfl) (ev rfl)) rfl ?_
  refine q_is (l' := [(Iv kind), Ud, (Iv 0), (Iv kind), (Bo (icmp .eql kind 0)), (Bo (icmp .eql kind 0)), Ud, Ud, Ud, Ud, Ud, Ud, Ud, Ud, Ud, Ud, Ud, Ud, Ud, Ud, Ud]) rfl rfl (does_assign (u := (Bo (icmp .eql kind 0))) (ev rfl)) rfl ?_
  refine wpList_nil (hK5 _ _ ?_)
  refine wp_cond_split (t := icmp .eql kind 0) (ev rfl) (fun c6 => ?_) (fun c6 => ?_)
  · have c6' := c6
    (try simp only [icmp, Bool.and_eq_true, Bool.or_eq_true, Bool.and_eq_false_iff, Bool.or_eq_false_iff, Bool.not_eq_true', Bool.not_eq_false', decide_eq_true_eq, decide_eq_false_iff_not, beq_iff_eq, bne_iff_ne, beq_eq_false_iff_ne, bne_eq_false_iff_eq] at c6')
    refine wp_skip (hK4 _ _ ?_)
    refine wp_cond_true ((ev (rfl : evl _ _ = .bool (icmp .eql kind 0))).trans (congrArg Value.bool c6)) ?_
    refine wp_seq_k fun K7 hK7 => ?_
    refine wp_region_lit ?_
    refine q_is (l' := [(Iv kind), Ud, (Iv 1), (Iv kind), (Bo (icmp .eql kind 0)), (Bo (icmp .eql kind 0)), Ud, Ud, Ud, Ud, Ud, Ud, Ud, Ud, Ud, Ud, Ud, Ud, Ud, Ud, Ud]) rfl rfl (does_assign (u := (Iv 1)) (ev rfl)) rfl ?_
    refine wpList_nil (hK7 _ _ ?_)
    refine wp_ret ?_
    dsimp only [Exit.then, Exit.inBlock]
    refine ret_val (v := (Iv 1)) (res_T rfl (slot rfl)) (Ext.refl w) ?_
    have x8 : (rlNum kind : Int) = 1 := by first | (simp_all [rlNum, icmp]; done) | (simp [rlNum]; omega)
    exact (by first | rfl | rw [x8])
  have c6' := c6
  (try simp only [icmp, Bool.and_eq_true, Bool.or_eq_true, Bool.and_eq_false_iff, Bool.or_eq_false_iff, Bool.not_eq_true', Bool.not_eq_false', decide_eq_true_eq, decide_eq_false_iff_not, beq_iff_eq, bne_iff_ne, beq_eq_false_iff_ne, bne_eq_false_iff_eq] at c6')
  refine wp_seq_k fun K9 hK9 => ?_
  refine wp_region_lit ?_
  refine q_is (l' := [(Iv kind), Ud, (Iv 0), (Iv kind), (Bo (icmp .eql kind 0)), (Bo (icmp .eql kind 0)), (Bo (icmp .eql kind 8)), Ud, Ud, Ud, Ud, Ud, Ud, Ud, Ud, Ud, Ud, Ud, Ud, Ud, Ud]) rfl rfl (does_icmp (p := kind) (q := 8) (.inl rfl) (ev rfl) (ev rfl)) rfl ?_
  refine q_is (l' := [(Iv kind), Ud, (Iv 0), (Iv kind), (Bo (icmp .eql kind 8)), (Bo (icmp .eql kind 0)), (Bo (icmp .eql kind 8)), Ud, Ud, Ud, Ud, Ud, Ud, Ud, Ud, Ud, Ud, Ud, Ud, Ud, Ud]) rfl rfl (does_assign (u := (Bo (icmp .eql kind 8))) (ev rfl)) rfl ?_
  refine wpList_nil (hK9 _ _ ?_)
  refine wp_cond_split (t := icmp .eql kind 8) (ev rfl) (fun c10 => ?_) (fun c10 => ?_)
  · have c10' := c10
    (try simp only [icmp, Bool.and_eq_true, Bool.or_eq_true, Bool.and_eq_false_iff, Bool.or_eq_false_iff, Bool.not_eq_true', Bool.not_eq_false', decide_eq_true_eq, decide_eq_false_iff_not, beq_iff_eq, bne_iff_ne, beq_eq_false_iff_ne, bne_eq_false_iff_eq] at c10')
    refine wp_skip (hK4 _ _ ?_)
    refine wp_cond_true ((ev (rfl : evl _ _ = .bool (icmp .eql kind 8))).trans (congrArg Value.bool c10)) ?_
    refine wp_seq_k fun K11 hK11 => ?_
    refine wp_region_lit ?_
    refine q_is (l' := [(Iv kind), Ud, (Iv 1), (Iv kind), (Bo (icmp .eql kind 8)), (Bo (icmp .eql kind 0)), (Bo (icmp .eql kind 8)), Ud, Ud, Ud, Ud, Ud, Ud, Ud, Ud, Ud, Ud, Ud, Ud, Ud, Ud]) rfl rfl (does_assign (u := (Iv 1)) (ev rfl)) rfl ?_
    refine wpList_nil (hK11 _ _ ?_)
    refine wp_ret ?_
    dsimp only [Exit.then, Exit.inBlock]
    refine ret_val (v := (Iv 1)) (res_T rfl (slot rfl)) (Ext.refl w) ?_
    have x12 : (rlNum kind : Int) = 1 := by first | (simp_all [rlNum, icmp]; done) | (simp [rlNum]; omega)
    exact (by first | rfl | rw [x12])
  have c10' := c10
  (try simp only [icmp, Bool.and_eq_true, Bool.or_eq_true, Bool.and_eq_false_iff, Bool.or_eq_false_iff, Bool.not_eq_true', Bool.not_eq_false', decide_eq_true_eq, decide_eq_false_iff_not, beq_iff_eq, bne_iff_ne, beq_eq_false_iff_ne, bne_eq_false_iff_eq] at c10')
  refine wp_seq_k fun K13 hK13 => ?_
  refine wp_region_lit ?_
  refine q_is (l' := [(Iv kind), Ud, (Iv 0), (Iv kind), (Bo (icmp .eql kind 8)), (Bo (icmp .eql kind 0)), (Bo (icmp .eql kind 8)), (Bo (icmp .eql kind 10)), Ud, Ud, Ud, Ud, Ud, Ud, Ud, Ud, Ud, Ud, Ud, Ud, Ud]) rfl rfl (does_icmp (p := kind) (q := 10) (.inl rfl) (ev rfl) (ev rfl)) rfl ?_
  refine q_is (l' := [(Iv kind), Ud, (Iv 0), (Iv kind), (Bo (icmp .eql kind 10)), (Bo (icmp .eql kind 0)), (Bo (icmp .eql kind 8)), (Bo (icmp .eql kind 10)), Ud, Ud, Ud, Ud, Ud, Ud, Ud, Ud, Ud, Ud, Ud, Ud, Ud]) rfl rfl (does_assign (u := (Bo (icmp .eql kind 10))) (ev rfl)) rfl ?_
  refine wpList_nil (hK13 _ _ ?_)
  refine wp_cond_split (t := icmp .eql kind 10) (ev rfl) (fun c14 => ?_) (fun c14 => ?_)
  · have c14' := c14
    (try simp only [icmp, Bool.and_eq_true, Bool.or_eq_true, Bool.and_eq_false_iff, Bool.or_eq_false_iff, Bool.not_eq_true', Bool.not_eq_false', decide_eq_true_eq, decide_eq_false_iff_not, beq_iff_eq, bne_iff_ne, beq_eq_false_iff_ne, bne_eq_false_iff_eq] at c14')
    refine wp_skip (hK4 _ _ ?_)
    refine wp_cond_true ((ev (rfl : evl _ _ = .bool (icmp .eql kind 10))).trans (congrArg Value.bool c14)) ?_
    refine wp_seq_k fun K15 hK15 => ?_
    refine wp_region_lit ?_
    refine q_is (l' := [(Iv kind), Ud, (Iv 1), (Iv kind), (Bo (icmp .eql kind 10)), (Bo (icmp .eql kind 0)), (Bo (icmp .eql kind 8)), (Bo (icmp .eql kind 10)), Ud, Ud, Ud, Ud, Ud, Ud, Ud, Ud, Ud, Ud, Ud, Ud, Ud]) rfl rfl (does_assign (u := (Iv 1)) (ev rfl)) rfl ?_
    refine wpList_nil (hK15 _ _ ?_)
    refine wp_ret ?_
    dsimp only [Exit.then, Exit.inBlock]
    refine ret_val (v := (Iv 1)) (res_T rfl (slot rfl)) (Ext.refl w) ?_
    have x16 : (rlNum kind : Int) = 1 := by first | (simp_all [rlNum, icmp]; done) | (simp [rlNum]; omega)
    exact (by first | rfl | rw [x16])
  have c14' := c14
  (try simp only [icmp, Bool.and_eq_true, Bool.or_eq_true, Bool.and_eq_false_iff, Bool.or_eq_false_iff, Bool.not_eq_true', Bool.not_eq_false', decide_eq_true_eq, decide_eq_false_iff_not, beq_iff_eq, bne_iff_ne, beq_eq_false_iff_ne, bne_eq_false_iff_eq] at c14')
  refine wp_seq_k fun K17 hK17 => ?_
  refine wp_region_lit ?_
  refine q_is (l' := [(Iv kind), Ud, (Iv 0), (Iv kind), (Bo (icmp .eql kind 10)), (Bo (icmp .eql kind 0)), (Bo (icmp .eql kind 8)), (Bo (icmp .eql kind 10)), (Bo (icmp .eql kind 12)), Ud, Ud, Ud, Ud, Ud, Ud, Ud, Ud, Ud, Ud, Ud, Ud]) rfl rfl (does_icmp (p := kind) (q := 12) (.inl rfl) (ev rfl) (ev rfl)) rfl ?_
  refine q_is (l' := [(Iv kind), Ud, (Iv 0), (Iv kind), (Bo (icmp .eql kind 12)), (Bo (icmp .eql kind 0)), (Bo (icmp .eql kind 8)), (Bo (icmp .eql kind 10)), (Bo (icmp .eql kind 12)), Ud, Ud, Ud, Ud, Ud, Ud, Ud, Ud, Ud, Ud, Ud, Ud]) rfl rfl (does_assign (u := (Bo (icmp .eql kind 12))) (ev rfl)) rfl ?_
  refine wpList_nil (hK17 _ _ ?_)
  refine wp_cond_split (t := icmp .eql kind 12) (ev rfl) (fun c18 => ?_) (fun c18 => ?_)
  · have c18' := c18
    (try simp only [icmp, Bool.and_eq_true, Bool.or_eq_true, Bool.and_eq_false_iff, Bool.or_eq_false_iff, Bool.not_eq_true', Bool.not_eq_false', decide_eq_true_eq, decide_eq_false_iff_not, beq_iff_eq, bne_iff_ne, beq_eq_false_iff_ne, bne_eq_false_iff_eq] at c18')
    refine wp_skip (hK4 _ _ ?_)
    refine wp_cond_true ((ev (rfl : evl _ _ = .bool (icmp .eql kind 12))).trans (congrArg Value.bool c18)) ?_
    refine wp_seq_k fun K19 hK19 => ?_
    refine wp_region_lit ?_
    refine q_is (l' := [(Iv kind), Ud, (Iv 1), (Iv kind), (Bo (icmp .eql kind 12)), (Bo (icmp .eql kind 0)), (Bo (icmp .eql kind 8)), (Bo (icmp .eql kind 10)), (Bo (icmp .eql kind 12)), Ud, Ud, Ud, Ud, Ud, Ud, Ud, Ud, Ud, Ud, Ud, Ud]) rfl rfl (does_assign (u := (Iv 1)) (ev rfl)) rfl ?_
    refine wpList_nil (hK19 _ _ ?_)
    refine wp_ret ?_
    dsimp only [Exit.then, Exit.inBlock]
    refine ret_val (v := (Iv 1)) (res_T rfl (slot rfl)) (Ext.refl w) ?_
    have x20 : (rlNum kind : Int) = 1 := by first | (simp_all [rlNum, icmp]; done) | (simp [rlNum]; omega)
    exact (by first | rfl | rw [x20])
  have c18' := c18
  (try simp only [icmp, Bool.and_eq_true, Bool.or_eq_true, Bool.and_eq_false_iff, Bool.or_eq_false_iff, Bool.not_eq_true', Bool.not_eq_false', decide_eq_true_eq, decide_eq_false_iff_not, beq_iff_eq, bne_iff_ne, beq_eq_false_iff_ne, bne_eq_false_iff_eq] at c18')
  refine wp_seq_k fun K21 hK21 => ?_
  refine wp_region_lit ?_
  refine q_is (l' := [(Iv kind), Ud, (Iv 0), (Iv kind), (Bo (icmp .eql kind 12)), (Bo (icmp .eql kind 0)), (Bo (icmp .eql kind 8)), (Bo (icmp .eql kind 10)), (Bo (icmp .eql kind 12)), (Bo (icmp .eql kind 14)), Ud, Ud, Ud, Ud, Ud, Ud, Ud, Ud, Ud, Ud, Ud]) rfl rfl (does_icmp (p := kind) (q := 14) (.inl rfl) (ev rfl) (ev rfl)) rfl ?_
  refine q_is (l' := [(Iv kind), Ud, (Iv 0), (Iv kind), (Bo (icmp .eql kind 14)), (Bo (icmp .eql kind 0)), (Bo (icmp .eql kind 8)), (Bo (icmp .eql kind 10)), (Bo (icmp .eql kind 12)), (Bo (icmp .eql kind 14)), Ud, Ud, Ud, Ud, Ud, Ud, Ud, Ud, Ud, Ud, Ud]) rfl rfl (does_assign (u := (Bo (icmp .eql kind 14))) (ev rfl)) rfl ?_
  refine wpList_nil (hK21 _ _ ?_)
  refine wp_cond_split (t := icmp .eql kind 14) (ev rfl) (fun c22 => ?_) (fun c22 => ?_)
  · have c22' := c22
    (try simp only [icmp, Bool.and_eq_true, Bool.or_eq_true, Bool.and_eq_false_iff, Bool.or_eq_false_iff, Bool.not_eq_true', Bool.not_eq_false', decide_eq_true_eq, decide_eq_false_iff_not, beq_iff_eq, bne_iff_ne, beq_eq_false_iff_ne, bne_eq_false_iff_eq] at c22')
    refine wp_skip (hK4 _ _ ?_)
    refine wp_cond_true ((ev (rfl : evl _ _ = .bool (icmp .eql kind 14))).trans (congrArg Value.bool c22)) ?_
    refine wp_seq_k fun K23 hK23 => ?_
    refine wp_region_lit ?_
    refine q_is (l' := [(Iv kind), Ud, (Iv 1), (Iv kind), (Bo (icmp .eql kind 14)), (Bo (icmp .eql kind 0)), (Bo (icmp .eql kind 8)), (Bo (icmp .eql kind 10)), (Bo (icmp .eql kind 12)), (Bo (icmp .eql kind 14)), Ud, Ud, Ud, Ud, Ud, Ud, Ud, Ud, Ud, Ud, Ud]) rfl rfl (does_assign (u := (Iv 1)) (ev rfl)) rfl ?_
    refine wpList_nil (hK23 _ _ ?_)
    refine wp_ret ?_
    dsimp only [Exit.then, Exit.inBlock]
    refine ret_val (v := (Iv 1)) (res_T rfl (slot rfl)) (Ext.refl w) ?_
    have x24 : (rlNum kind : Int) = 1 := by first | (simp_all [rlNum, icmp]; done) | (simp [rlNum]; omega)
    exact (by first | rfl | rw [x24])
  have c22' := c22
  (try simp only [icmp, Bool.and_eq_true, Bool.or_eq_true, Bool.and_eq_false_iff, Bool.or_eq_false_iff, Bool.not_eq_true', Bool.not_eq_false', decide_eq_true_eq, decide_eq_false_iff_not, beq_iff_eq, bne_iff_ne, beq_eq_false_iff_ne, bne_eq_false_iff_eq] at c22')
  refine wp_seq_k fun K25 hK25 => ?_
  refine wp_region_lit ?_
  refine q_is (l' := [(Iv kind), Ud, (Iv 0), (Iv kind), (Bo (icmp .eql kind 14)), (Bo (icmp .eql kind 0)), (Bo (icmp .eql kind 8)), (Bo (icmp .eql kind 10)), (Bo (icmp .eql kind 12)), (Bo (icmp .eql kind 14)), (Bo (icmp .eql kind 15)), Ud, Ud, Ud, Ud, Ud, Ud, Ud, Ud, Ud, Ud]) rfl rfl (does_icmp (p := kind) (q := 15) (.inl rfl) (ev rfl) (ev rfl)) rfl ?_
  refine q_is (l' := [(Iv kind), Ud, (Iv 0), (Iv kind), (Bo (icmp .eql kind 15)), (Bo (icmp .eql kind 0)), (Bo (icmp .eql kind 8)), (Bo (icmp .eql kind 10)), (Bo (icmp .eql kind 12)), (Bo (icmp .eql kind 14)), (Bo (icmp .eql kind 15)), Ud, Ud, Ud, Ud, Ud, Ud, Ud, Ud, Ud, Ud]) rfl rfl (does_assign (u := (Bo (icmp .eql kind 15))) (ev rfl)) rfl ?_
  refine wpList_nil (hK25 _ _ ?_)
  refine wp_cond_split (t := icmp .eql kind 15) (ev rfl) (fun c26 => ?_) (fun c26 => ?_)
  · have c26' := c26
    (try simp only [icmp, Bool.and_eq_true, Bool.or_eq_true, Bool.and_eq_false_iff, Bool.or_eq_false_iff, Bool.not_eq_true', Bool.not_eq_false', decide_eq_true_eq, decide_eq_false_iff_not, beq_iff_eq, bne_iff_ne, beq_eq_false_iff_ne, bne_eq_false_iff_eq] at c26')
    refine wp_skip (hK4 _ _ ?_)
    refine wp_cond_true ((ev (rfl : evl _ _ = .bool (icmp .eql kind 15))).trans (congrArg Value.bool c26)) ?_
    refine wp_seq_k fun K27 hK27 => ?_
    refine wp_region_lit ?_
    refine q_is (l' := [(Iv kind), Ud, (Iv 1), (Iv kind), (Bo (icmp .eql kind 15)), (Bo (icmp .eql kind 0)), (Bo (icmp .eql kind 8)), (Bo (icmp .eql kind 10)), (Bo (icmp .eql kind 12)), (Bo (icmp .eql kind 14)), (Bo (icmp .eql kind 15)), Ud, Ud, Ud, Ud, Ud, Ud, Ud, Ud, Ud, Ud]) rfl rfl (does_assign (u := (Iv 1)) (ev rfl)) rfl ?_
    refine wpList_nil (hK27 _ _ ?_)
    refine wp_ret ?_
    dsimp only [Exit.then, Exit.inBlock]
    refine ret_val (v := (Iv 1)) (res_T rfl (slot rfl)) (Ext.refl w) ?_
    have x28 : (rlNum kind : Int) = 1 := by first | (simp_all [rlNum, icmp]; done) | (simp [rlNum]; omega)
    exact (by first | rfl | rw [x28])
  have c26' := c26
  (try simp only [icmp, Bool.and_eq_true, Bool.or_eq_true, Bool.and_eq_false_iff, Bool.or_eq_false_iff, Bool.not_eq_true', Bool.not_eq_false', decide_eq_true_eq, decide_eq_false_iff_not, beq_iff_eq, bne_iff_ne, beq_eq_false_iff_ne, bne_eq_false_iff_eq] at c26')
  refine wp_region_lit ?_
  refine q_is (l' := [(Iv kind), Ud, (Iv 0), (Iv kind), (Bo (icmp .eql kind 15)), (Bo (icmp .eql kind 0)), (Bo (icmp .eql kind 8)), (Bo (icmp .eql kind 10)), (Bo (icmp .eql kind 12)), (Bo (icmp .eql kind 14)), (Bo (icmp .eql kind 15)), (Bo (icmp .eql kind 16)), Ud, Ud, Ud, Ud, Ud, Ud, Ud, Ud, Ud]) rfl rfl (does_icmp (p := kind) (q := 16) (.inl rfl) (ev rfl) (ev rfl)) rfl ?_
  refine q_is (l' := [(Iv kind), Ud, (Iv 0), (Iv kind), (Bo (icmp .eql kind 16)), (Bo (icmp .eql kind 0)), (Bo (icmp .eql kind 8)), (Bo (icmp .eql kind 10)), (Bo (icmp .eql kind 12)), (Bo (icmp .eql kind 14)), (Bo (icmp .eql kind 15)), (Bo (icmp .eql kind 16)), Ud, Ud, Ud, Ud, Ud, Ud, Ud, Ud, Ud]) rfl rfl (does_assign (u := (Bo (icmp .eql kind 16))) (ev rfl)) rfl ?_
  refine wpList_nil (hK4 _ _ ?_)
  refine wp_cond_split (t := icmp .eql kind 16) (ev rfl) (fun c29 => ?_) (fun c29 => ?_)
  · have c29' := c29
    (try simp only [icmp, Bool.and_eq_true, Bool.or_eq_true, Bool.and_eq_false_iff, Bool.or_eq_false_iff, Bool.not_eq_true', Bool.not_eq_false', decide_eq_true_eq, decide_eq_false_iff_not, beq_iff_eq, bne_iff_ne, beq_eq_false_iff_ne, bne_eq_false_iff_eq] at c29')
    refine wp_seq_k fun K30 hK30 => ?_
    refine wp_region_lit ?_
    refine q_is (l' := [(Iv kind), Ud, (Iv 1), (Iv kind), (Bo (icmp .eql kind 16)), (Bo (icmp .eql kind 0)), (Bo (icmp .eql kind 8)), (Bo (icmp .eql kind 10)), (Bo (icmp .eql kind 12)), (Bo (icmp .eql kind 14)), (Bo (icmp .eql kind 15)), (Bo (icmp .eql kind 16)), Ud, Ud, Ud, Ud, Ud, Ud, Ud, Ud, Ud]) rfl rfl (does_assign (u := (Iv 1)) (ev rfl)) rfl ?_
    refine wpList_nil (hK30 _ _ ?_)
    refine wp_ret ?_
    dsimp only [Exit.then, Exit.inBlock]
    refine ret_val (v := (Iv 1)) (res_T rfl (slot rfl)) (Ext.refl w) ?_
    have x31 : (rlNum kind : Int) = 1 := by first | (simp_all [rlNum, icmp]; done) | (simp [rlNum]; omega)
    exact (by first | rfl | rw [x31])
  have c29' := c29
  (try simp only [icmp, Bool.and_eq_true, Bool.or_eq_true, Bool.and_eq_false_iff, Bool.or_eq_false_iff, Bool.not_eq_true', Bool.not_eq_false', decide_eq_true_eq, decide_eq_false_iff_not, beq_iff_eq, bne_iff_ne, beq_eq_false_iff_ne, bne_eq_false_iff_eq] at c29')
  refine wp_seq_k fun K32 hK32 => ?_
  refine wp_seq_k fun K33 hK33 => ?_
  refine wp_region_lit ?_
  refine q_is (l' := [(Iv kind), Ud, (Iv 0), (Iv kind), (Bo (icmp .eql kind 16)), (Bo (icmp .eql kind 0)), (Bo (icmp .eql kind 8)), (Bo (icmp .eql kind 10)), (Bo (icmp .eql kind 12)), (Bo (icmp .eql kind 14)), (Bo (icmp .eql kind 15)), (Bo (icmp .eql kind 16)), Ud, (Bo (icmp .eql kind 2)), Ud, Ud, Ud, Ud, Ud, Ud, Ud]) rfl rfl (does_icmp (p := kind) (q := 2) (.inl rfl) (ev rfl) (ev rfl)) rfl ?_
  refine q_is (l' := [(Iv kind), Ud, (Iv 0), (Iv kind), (Bo (icmp .eql kind 16)), (Bo (icmp .eql kind 0)), (Bo (icmp .eql kind 8)), (Bo (icmp .eql kind 10)), (Bo (icmp .eql kind 12)), (Bo (icmp .eql kind 14)), (Bo (icmp .eql kind 15)), (Bo (icmp .eql kind 16)), (Bo (icmp .eql kind 2)), (Bo (icmp .eql kind 2)), Ud, Ud, Ud, Ud, Ud, Ud, Ud]) rfl rfl (does_assign (u := (Bo (icmp .eql kind 2))) (ev rfl)) rfl ?_
  refine wpList_nil (hK33 _ _ ?_)
  refine wp_cond_split (t := icmp .eql kind 2) (ev rfl) (fun c34 => ?_) (fun c34 => ?_)
  · have c34' := c34
    (try simp only [icmp, Bool.and_eq_true, Bool.or_eq_true, Bool.and_eq_false_iff, Bool.or_eq_false_iff, Bool.not_eq_true', Bool.not_eq_false', decide_eq_true_eq, decide_eq_false_iff_not, beq_iff_eq, bne_iff_ne, beq_eq_false_iff_ne, bne_eq_false_iff_eq] at c34')
    refine wp_skip (hK32 _ _ ?_)
    refine wp_cond_true ((ev (rfl : evl _ _ = .bool (icmp .eql kind 2))).trans (congrArg Value.bool c34)) ?_
    refine wp_seq_k fun K35 hK35 => ?_
    refine wp_region_lit ?_
    refine q_is (l' := [(Iv kind), Ud, (Iv 2), (Iv kind), (Bo (icmp .eql kind 16)), (Bo (icmp .eql kind 0)), (Bo (icmp .eql kind 8)), (Bo (icmp .eql kind 10)), (Bo (icmp .eql kind 12)), (Bo (icmp .eql kind 14)), (Bo (icmp .eql kind 15)), (Bo (icmp .eql kind 16)), (Bo (icmp .eql kind 2)), (Bo (icmp .eql kind 2)), Ud, Ud, Ud, Ud, Ud, Ud, Ud]) rfl rfl (does_assign (u := (Iv 2)) (ev rfl)) rfl ?_
    refine wpList_nil (hK35 _ _ ?_)
    refine wp_ret ?_
    dsimp only [Exit.then, Exit.inBlock]
    refine ret_val (v := (Iv 2)) (res_T rfl (slot rfl)) (Ext.refl w) ?_
    have x36 : (rlNum kind : Int) = 2 := by first | (simp_all [rlNum, icmp]; done) | (simp [rlNum]; omega)
    exact (by first | rfl | rw [x36])
  have c34' := c34
  (try simp only [icmp, Bool.and_eq_true, Bool.or_eq_true, Bool.and_eq_false_iff, Bool.or_eq_false_iff, Bool.not_eq_true', Bool.not_eq_false', decide_eq_true_eq, decide_eq_false_iff_not, beq_iff_eq, bne_iff_ne, beq_eq_false_iff_ne, bne_eq_false_iff_eq] at c34')
  refine wp_region_lit ?_
  refine q_is (l' := [(Iv kind), Ud, (Iv 0), (Iv kind), (Bo (icmp .eql kind 16)), (Bo (icmp .eql kind 0)), (Bo (icmp .eql kind 8)), (Bo (icmp .eql kind 10)), (Bo (icmp .eql kind 12)), (Bo (icmp .eql kind 14)), (Bo (icmp .eql kind 15)), (Bo (icmp .eql kind 16)), (Bo (icmp .eql kind 2)), (Bo (icmp .eql kind 2)), (Bo (icmp .eql kind 3)), Ud, Ud, Ud, Ud, Ud, Ud]) rfl rfl (does_icmp (p := kind) (q := 3) (.inl rfl) (ev rfl) (ev rfl)) rfl ?_
  refine q_is (l' := [(Iv kind), Ud, (Iv 0), (Iv kind), (Bo (icmp .eql kind 16)), (Bo (icmp .eql kind 0)), (Bo (icmp .eql kind 8)), (Bo (icmp .eql kind 10)), (Bo (icmp .eql kind 12)), (Bo (icmp .eql kind 14)), (Bo (icmp .eql kind 15)), (Bo (icmp .eql kind 16)), (Bo (icmp .eql kind 3)), (Bo (icmp .eql kind 2)), (Bo (icmp .eql kind 3)), Ud, Ud, Ud, Ud, Ud, Ud]) rfl rfl (does_assign (u := (Bo (icmp .eql kind 3))) (ev rfl)) rfl ?_
  refine wpList_nil (hK32 _ _ ?_)
  refine wp_cond_split (t := icmp .eql kind 3) (ev rfl) (fun c37 => ?_) (fun c37 => ?_)
  · have c37' := c37
    (try simp only [icmp, Bool.and_eq_true, Bool.or_eq_true, Bool.and_eq_false_iff, Bool.or_eq_false_iff, Bool.not_eq_true', Bool.not_eq_false', decide_eq_true_eq, decide_eq_false_iff_not, beq_iff_eq, bne_iff_ne, beq_eq_false_iff_ne, bne_eq_false_iff_eq] at c37')
    refine wp_seq_k fun K38 hK38 => ?_
    refine wp_region_lit ?_
    refine q_is (l' := [(Iv kind), Ud, (Iv 2), (Iv kind), (Bo (icmp .eql kind 16)), (Bo (icmp .eql kind 0)), (Bo (icmp .eql kind 8)), (Bo (icmp .eql kind 10)), (Bo (icmp .eql kind 12)), (Bo (icmp .eql kind 14)), (Bo (icmp .eql kind 15)), (Bo (icmp .eql kind 16)), (Bo (icmp .eql kind 3)), (Bo (icmp .eql kind 2)), (Bo (icmp .eql kind 3)), Ud, Ud, Ud, Ud, Ud, Ud]) rfl rfl (does_assign (u := (Iv 2)) (ev rfl)) rfl ?_
    refine wpList_nil (hK38 _ _ ?_)
    refine wp_ret ?_
    dsimp only [Exit.then, Exit.inBlock]
    refine ret_val (v := (Iv 2)) (res_T rfl (slot rfl)) (Ext.refl w) ?_
    have x39 : (rlNum kind : Int) = 2 := by first | (simp_all [rlNum, icmp]; done) | (simp [rlNum]; omega)
    exact (by first | rfl | rw [x39])
  have c37' := c37
  (try simp only [icmp, Bool.and_eq_true, Bool.or_eq_true, Bool.and_eq_false_iff, Bool.or_eq_false_iff, Bool.not_eq_true', Bool.not_eq_false', decide_eq_true_eq, decide_eq_false_iff_not, beq_iff_eq, bne_iff_ne, beq_eq_false_iff_ne, bne_eq_false_iff_eq] at c37')
  refine wp_seq_k fun K40 hK40 => ?_
  refine wp_seq_k fun K41 hK41 => ?_
  refine wp_region_lit ?_
  refine q_is (l' := [(Iv kind), Ud, (Iv 0), (Iv kind), (Bo (icmp .eql kind 16)), (Bo (icmp .eql kind 0)), (Bo (icmp .eql kind 8)), (Bo (icmp .eql kind 10)), (Bo (icmp .eql kind 12)), (Bo (icmp .eql kind 14)), (Bo (icmp .eql kind 15)), (Bo (icmp .eql kind 16)), (Bo (icmp .eql kind 3)), (Bo (icmp .eql kind 2)), (Bo (icmp .eql kind 3)), Ud, (Bo (icmp .eql kind 1)), Ud, Ud, Ud, Ud]) rfl rfl (does_icmp (p := kind) (q := 1) (.inl rfl) (ev rfl) (ev rfl)) rfl ?_
  refine q_is (l' := [(Iv kind), Ud, (Iv 0), (Iv kind), (Bo (icmp .eql kind 16)), (Bo (icmp .eql kind 0)), (Bo (icmp .eql kind 8)), (Bo (icmp .eql kind 10)), (Bo (icmp .eql kind 12)), (Bo (icmp .eql kind 14)), (Bo (icmp .eql kind 15)), (Bo (icmp .eql kind 16)), (Bo (icmp .eql kind 3)), (Bo (icmp .eql kind 2)), (Bo (icmp .eql kind 3)), (Bo (icmp .eql kind 1)), (Bo (icmp .eql kind 1)), Ud, Ud, Ud, Ud]) rfl rfl (does_assign (u := (Bo (icmp .eql kind 1))) (ev rfl)) rfl ?_
  refine wpList_nil (hK41 _ _ ?_)
  refine wp_cond_split (t := icmp .eql kind 1) (ev rfl) (fun c42 => ?_) (fun c42 => ?_)
  · have c42' := c42
    (try simp only [icmp, Bool.and_eq_true, Bool.or_eq_true, Bool.and_eq_false_iff, Bool.or_eq_false_iff, Bool.not_eq_true', Bool.not_eq_false', decide_eq_true_eq, decide_eq_false_iff_not, beq_iff_eq, bne_iff_ne, beq_eq_false_iff_ne, bne_eq_false_iff_eq] at c42')
    refine wp_skip (hK40 _ _ ?_)
    refine wp_cond_true ((ev (rfl : evl _ _ = .bool (icmp .eql kind 1))).trans (congrArg Value.bool c42)) ?_
    refine wp_seq_k fun K43 hK43 => ?_
    refine wp_region_lit ?_
    refine q_is (l' := [(Iv kind), Ud, (Iv 3), (Iv kind), (Bo (icmp .eql kind 16)), (Bo (icmp .eql kind 0)), (Bo (icmp .eql kind 8)), (Bo (icmp .eql kind 10)), (Bo (icmp .eql kind 12)), (Bo (icmp .eql kind 14)), (Bo (icmp .eql kind 15)), (Bo (icmp .eql kind 16)), (Bo (icmp .eql kind 3)), (Bo (icmp .eql kind 2)), (Bo (icmp .eql kind 3)), (Bo (icmp .eql kind 1)), (Bo (icmp .eql kind 1)), Ud, Ud, Ud, Ud]) rfl rfl (does_assign (u := (Iv 3)) (ev rfl)) rfl ?_
    refine wpList_nil (hK43 _ _ ?_)
    refine wp_ret ?_
    dsimp only [Exit.then, Exit.inBlock]
    refine ret_val (v := (Iv 3)) (res_T rfl (slot rfl)) (Ext.refl w) ?_
    have x44 : (rlNum kind : Int) = 3 := by first | (simp_all [rlNum, icmp]; done) | (simp [rlNum]; omega)
    exact (by first | rfl | rw [x44])
  have c42' := c42
  (try simp only [icmp, Bool.and_eq_true, Bool.or_eq_true, Bool.and_eq_false_iff, Bool.or_eq_false_iff, Bool.not_eq_true', Bool.not_eq_false', decide_eq_true_eq, decide_eq_false_iff_not, beq_iff_eq, bne_iff_ne, beq_eq_false_iff_ne, bne_eq_false_iff_eq] at c42')
  refine wp_seq_k fun K45 hK45 => ?_
  refine wp_region_lit ?_
  refine q_is (l' := [(Iv kind), Ud, (Iv 0), (Iv kind), (Bo (icmp .eql kind 16)), (Bo (icmp .eql kind 0)), (Bo (icmp .eql kind 8)), (Bo (icmp .eql kind 10)), (Bo (icmp .eql kind 12)), (Bo (icmp .eql kind 14)), (Bo (icmp .eql kind 15)), (Bo (icmp .eql kind 16)), (Bo (icmp .eql kind 3)), (Bo (icmp .eql kind 2)), (Bo (icmp .eql kind 3)), (Bo (icmp .eql kind 1)), (Bo (icmp .eql kind 1)), (Bo (icmp .eql kind 9)), Ud, Ud, Ud]) rfl rfl (does_icmp (p := kind) (q := 9) (.inl rfl) (ev rfl) (ev rfl)) rfl ?_
  refine q_is (l' := [(Iv kind), Ud, (Iv 0), (Iv kind), (Bo (icmp .eql kind 16)), (Bo (icmp .eql kind 0)), (Bo (icmp .eql kind 8)), (Bo (icmp .eql kind 10)), (Bo (icmp .eql kind 12)), (Bo (icmp .eql kind 14)), (Bo (icmp .eql kind 15)), (Bo (icmp .eql kind 16)), (Bo (icmp .eql kind 3)), (Bo (icmp .eql kind 2)), (Bo (icmp .eql kind 3)), (Bo (icmp .eql kind 9)), (Bo (icmp .eql kind 1)), (Bo (icmp .eql kind 9)), Ud, Ud, Ud]) rfl rfl (does_assign (u := (Bo (icmp .eql kind 9))) (ev rfl)) rfl ?_
  refine wpList_nil (hK45 _ _ ?_)
  refine wp_cond_split (t := icmp .eql kind 9) (ev rfl) (fun c46 => ?_) (fun c46 => ?_)
  · have c46' := c46
    (try simp only [icmp, Bool.and_eq_true, Bool.or_eq_true, Bool.and_eq_false_iff, Bool.or_eq_false_iff, Bool.not_eq_true', Bool.not_eq_false', decide_eq_true_eq, decide_eq_false_iff_not, beq_iff_eq, bne_iff_ne, beq_eq_false_iff_ne, bne_eq_false_iff_eq] at c46')
    refine wp_skip (hK40 _ _ ?_)
    refine wp_cond_true ((ev (rfl : evl _ _ = .bool (icmp .eql kind 9))).trans (congrArg Value.bool c46)) ?_
    refine wp_seq_k fun K47 hK47 => ?_
    refine wp_region_lit ?_
    refine q_is (l' := [(Iv kind), Ud, (Iv 3), (Iv kind), (Bo (icmp .eql kind 16)), (Bo (icmp .eql kind 0)), (Bo (icmp .eql kind 8)), (Bo (icmp .eql kind 10)), (Bo (icmp .eql kind 12)), (Bo (icmp .eql kind 14)), (Bo (icmp .eql kind 15)), (Bo (icmp .eql kind 16)), (Bo (icmp .eql kind 3)), (Bo (icmp .eql kind 2)), (Bo (icmp .eql kind 3)), (Bo (icmp .eql kind 9)), (Bo (icmp .eql kind 1)), (Bo (icmp .eql kind 9)), Ud, Ud, Ud]) rfl rfl (does_assign (u := (Iv 3)) (ev rfl)) rfl ?_
    refine wpList_nil (hK47 _ _ ?_)
    refine wp_ret ?_
    dsimp only [Exit.then, Exit.inBlock]
    refine ret_val (v := (Iv 3)) (res_T rfl (slot rfl)) (Ext.refl w) ?_
    have x48 : (rlNum kind : Int) = 3 := by first | (simp_all [rlNum, icmp]; done) | (simp [rlNum]; omega)
    exact (by first | rfl | rw [x48])
  have c46' := c46
  (try simp only [icmp, Bool.and_eq_true, Bool.or_eq_true, Bool.and_eq_false_iff, Bool.or_eq_false_iff, Bool.not_eq_true', Bool.not_eq_false', decide_eq_true_eq, decide_eq_false_iff_not, beq_iff_eq, bne_iff_ne, beq_eq_false_iff_ne, bne_eq_false_iff_eq] at c46')
  refine wp_region_lit ?_
  refine q_is (l' := [(Iv kind), Ud, (Iv 0), (Iv kind), (Bo (icmp .eql kind 16)), (Bo (icmp .eql kind 0)), (Bo (icmp .eql kind 8)), (Bo (icmp .eql kind 10)), (Bo (icmp .eql kind 12)), (Bo (icmp .eql kind 14)), (Bo (icmp .eql kind 15)), (Bo (icmp .eql kind 16)), (Bo (icmp .eql kind 3)), (Bo (icmp .eql kind 2)), (Bo (icmp .eql kind 3)), (Bo (icmp .eql kind 9)), (Bo (icmp .eql kind 1)), (Bo (icmp .eql kind 9)), (Bo (icmp .eql kind 11)), Ud, Ud]) rfl rfl (does_icmp (p := kind) (q := 11) (.inl rfl) (ev rfl) (ev rfl)) rfl ?_
  refine q_is (l' := [(Iv kind), Ud, (Iv 0), (Iv kind), (Bo (icmp .eql kind 16)), (Bo (icmp .eql kind 0)), (Bo (icmp .eql kind 8)), (Bo (icmp .eql kind 10)), (Bo (icmp .eql kind 12)), (Bo (icmp .eql kind 14)), (Bo (icmp .eql kind 15)), (Bo (icmp .eql kind 16)), (Bo (icmp .eql kind 3)), (Bo (icmp .eql kind 2)), (Bo (icmp .eql kind 3)), (Bo (icmp .eql kind 11)), (Bo (icmp .eql kind 1)), (Bo (icmp .eql kind 9)), (Bo (icmp .eql kind 11)), Ud, Ud]) rfl rfl (does_assign (u := (Bo (icmp .eql kind 11))) (ev rfl)) rfl ?_
  refine wpList_nil (hK40 _ _ ?_)
  refine wp_cond_split (t := icmp .eql kind 11) (ev rfl) (fun c49 => ?_) (fun c49 => ?_)
  · have c49' := c49
    (try simp only [icmp, Bool.and_eq_true, Bool.or_eq_true, Bool.and_eq_false_iff, Bool.or_eq_false_iff, Bool.not_eq_true', Bool.not_eq_false', decide_eq_true_eq, decide_eq_false_iff_not, beq_iff_eq, bne_iff_ne, beq_eq_false_iff_ne, bne_eq_false_iff_eq] at c49')
    refine wp_seq_k fun K50 hK50 => ?_
    refine wp_region_lit ?_
    refine q_is (l' := [(Iv kind), Ud, (Iv 3), (Iv kind), (Bo (icmp .eql kind 16)), (Bo (icmp .eql kind 0)), (Bo (icmp .eql kind 8)), (Bo (icmp .eql kind 10)), (Bo (icmp .eql kind 12)), (Bo (icmp .eql kind 14)), (Bo (icmp .eql kind 15)), (Bo (icmp .eql kind 16)), (Bo (icmp .eql kind 3)), (Bo (icmp .eql kind 2)), (Bo (icmp .eql kind 3)), (Bo (icmp .eql kind 11)), (Bo (icmp .eql kind 1)), (Bo (icmp .eql kind 9)), (Bo (icmp .eql kind 11)), Ud, Ud]) rfl rfl (does_assign (u := (Iv 3)) (ev rfl)) rfl ?_
    refine wpList_nil (hK50 _ _ ?_)
    refine wp_ret ?_
    dsimp only [Exit.then, Exit.inBlock]
    refine ret_val (v := (Iv 3)) (res_T rfl (slot rfl)) (Ext.refl w) ?_
    have x51 : (rlNum kind : Int) = 3 := by first | (simp_all [rlNum, icmp]; done) | (simp [rlNum]; omega)
    exact (by first | rfl | rw [x51])
  have c49' := c49
  (try simp only [icmp, Bool.and_eq_true, Bool.or_eq_true, Bool.and_eq_false_iff, Bool.or_eq_false_iff, Bool.not_eq_true', Bool.not_eq_false', decide_eq_true_eq, decide_eq_false_iff_not, beq_iff_eq, bne_iff_ne, beq_eq_false_iff_ne, bne_eq_false_iff_eq] at c49')
  refine wp_seq_k fun K52 hK52 => ?_
  refine wp_region_lit ?_
  refine q_is (l' := [(Iv kind), Ud, (Iv 0), (Iv kind), (Bo (icmp .eql kind 16)), (Bo (icmp .eql kind 0)), (Bo (icmp .eql kind 8)), (Bo (icmp .eql kind 10)), (Bo (icmp .eql kind 12)), (Bo (icmp .eql kind 14)), (Bo (icmp .eql kind 15)), (Bo (icmp .eql kind 16)), (Bo (icmp .eql kind 3)), (Bo (icmp .eql kind 2)), (Bo (icmp .eql kind 3)), (Bo (icmp .eql kind 11)), (Bo (icmp .eql kind 1)), (Bo (icmp .eql kind 9)), (Bo (icmp .eql kind 11)), Ud, (Bo (icmp .eql kind 4))]) rfl rfl (does_icmp (p := kind) (q := 4) (.inl rfl) (ev rfl) (ev rfl)) rfl ?_
  refine q_is (l' := [(Iv kind), Ud, (Iv 0), (Iv kind), (Bo (icmp .eql kind 16)), (Bo (icmp .eql kind 0)), (Bo (icmp .eql kind 8)), (Bo (icmp .eql kind 10)), (Bo (icmp .eql kind 12)), (Bo (icmp .eql kind 14)), (Bo (icmp .eql kind 15)), (Bo (icmp .eql kind 16)), (Bo (icmp .eql kind 3)), (Bo (icmp .eql kind 2)), (Bo (icmp .eql kind 3)), (Bo (icmp .eql kind 11)), (Bo (icmp .eql kind 1)), (Bo (icmp .eql kind 9)), (Bo (icmp .eql kind 11)), (Bo (icmp .eql kind 4)), (Bo (icmp .eql kind 4))]) rfl rfl (does_assign (u := (Bo (icmp .eql kind 4))) (ev rfl)) rfl ?_
  refine wpList_nil (hK52 _ _ ?_)
  refine wp_cond_split (t := icmp .eql kind 4) (ev rfl) (fun c53 => ?_) (fun c53 => ?_)
  · have c53' := c53
    (try simp only [icmp, Bool.and_eq_true, Bool.or_eq_true, Bool.and_eq_false_iff, Bool.or_eq_false_iff, Bool.not_eq_true', Bool.not_eq_false', decide_eq_true_eq, decide_eq_false_iff_not, beq_iff_eq, bne_iff_ne, beq_eq_false_iff_ne, bne_eq_false_iff_eq] at c53')
    refine wp_seq_k fun K54 hK54 => ?_
    refine wp_region_lit ?_
    refine q_is (l' := [(Iv kind), Ud, (Iv 4), (Iv kind), (Bo (icmp .eql kind 16)), (Bo (icmp .eql kind 0)), (Bo (icmp .eql kind 8)), (Bo (icmp .eql kind 10)), (Bo (icmp .eql kind 12)), (Bo (icmp .eql kind 14)), (Bo (icmp .eql kind 15)), (Bo (icmp .eql kind 16)), (Bo (icmp .eql kind 3)), (Bo (icmp .eql kind 2)), (Bo (icmp .eql kind 3)), (Bo (icmp .eql kind 11)), (Bo (icmp .eql kind 1)), (Bo (icmp .eql kind 9)), (Bo (icmp .eql kind 11)), (Bo (icmp .eql kind 4)), (Bo (icmp .eql kind 4))]) rfl rfl (does_assign (u := (Iv 4)) (ev rfl)) rfl ?_
    refine wpList_nil (hK54 _ _ ?_)
    refine wp_ret ?_
    dsimp only [Exit.then, Exit.inBlock]
    refine ret_val (v := (Iv 4)) (res_T rfl (slot rfl)) (Ext.refl w) ?_
    have x55 : (rlNum kind : Int) = 4 := by first | (simp_all [rlNum, icmp]; done) | (simp [rlNum]; omega)
    exact (by first | rfl | rw [x55])
  have c53' := c53
  (try simp only [icmp, Bool.and_eq_true, Bool.or_eq_true, Bool.and_eq_false_iff, Bool.or_eq_false_iff, Bool.not_eq_true', Bool.not_eq_false', decide_eq_true_eq, decide_eq_false_iff_not, beq_iff_eq, bne_iff_ne, beq_eq_false_iff_ne, bne_eq_false_iff_eq] at c53')
  refine wp_skip (hK2 _ _ ?_)
  refine wp_seq_k fun K56 hK56 => ?_
  refine wp_region_lit ?_
  refine q_is (l' := [(Iv kind), Ud, (Iv 0), (Iv kind), (Bo (icmp .eql kind 16)), (Bo (icmp .eql kind 0)), (Bo (icmp .eql kind 8)), (Bo (icmp .eql kind 10)), (Bo (icmp .eql kind 12)), (Bo (icmp .eql kind 14)), (Bo (icmp .eql kind 15)), (Bo (icmp .eql kind 16)), (Bo (icmp .eql kind 3)), (Bo (icmp .eql kind 2)), (Bo (icmp .eql kind 3)), (Bo (icmp .eql kind 11)), (Bo (icmp .eql kind 1)), (Bo (icmp .eql kind 9)), (Bo (icmp .eql kind 11)), (Bo (icmp .eql kind 4)), (Bo (icmp .eql kind 4))]) rfl rfl (does_assign (u := (Iv 0)) (ev rfl)) rfl ?_
  refine wpList_nil (hK56 _ _ ?_)
  refine wp_ret ?_
  refine ret_val (v := (Iv 0)) (res_T rfl (slot rfl)) (Ext.refl w) ?_
  have x57 : (rlNum kind : Int) = 0 := by first | (simp_all [rlNum, icmp]; done) | (simp [rlNum]; omega)
  exact (by first | rfl | rw [x57])

/- spec.l01Finite -/
theorem c_spec_l01Finite (x : Nat) (w : World) : Gives Try.prog 84 #[(Fl x)] w (fun v w' => v = (Bo (finF (cf .f32 x)))) := by
  refine enter [(Fl x), Ud, Ud, Ud, Ud, Ud, Ud] Try.func84 rfl Try.ntmps84 rfl ?_
  refine wp_seq_k fun K1 hK1 => ?_
  refine wp_region_lit ?_
  refine q_is (l' := [(Fl x), Ud, (Bo false), Ud, Ud, Ud, Ud]) rfl rfl (does_assign (u := (Bo false)) (ev rfl)) rfl ?_
  refine wpList_nil (hK1 _ _ ?_)
  refine wp_seq_k fun K2 hK2 => ?_
  refine wp_region_lit ?_
  refine q_is (l' := [(Fl x), Ud, (Bo false), (Fl x), Ud, Ud, Ud]) rfl rfl (does_move (u := (Fl x)) (ev rfl)) rfl ?_
  refine q_is (l' := [(Fl x), Ud, (Bo false), (Fl x), (Fl x), Ud, Ud]) rfl rfl (does_move (u := (Fl x)) (ev rfl)) rfl ?_
  refine seqd rfl rfl (does_float (.inr (.inl rfl)) (ev rfl) (ev rfl)) ?_; rintro _ w6 ⟨r3, rfl, h4, E5⟩
  have X7 := Ext.gr (Ext.refl w) E5
  show wpList _ _ _ _ (fr [(Fl x), Ud, (Bo false), (Fl x), (Fl x), (Fl r3), Ud]) _
  refine q_is (l' := [(Fl x), Ud, (Bo false), (Fl x), (Fl x), (Fl r3), (Bo (fcmp .eql (ford .f32 (cf .f32 r3) (cf .f32 0))))]) rfl rfl (does_fcmp (.inl rfl) (ev rfl) (ev rfl)) rfl ?_
  refine q_is (l' := [(Fl x), Ud, (Bo (fcmp .eql (ford .f32 (cf .f32 r3) (cf .f32 0)))), (Fl x), (Fl x), (Fl r3), (Bo (fcmp .eql (ford .f32 (cf .f32 r3) (cf .f32 0))))]) rfl rfl (does_assign (u := (Bo (fcmp .eql (ford .f32 (cf .f32 r3) (cf .f32 0))))) (ev rfl)) rfl ?_
  refine wpList_nil (hK2 _ _ ?_)
  refine wp_ret ?_
  refine ret_val (v := (Bo (fcmp .eql (ford .f32 (cf .f32 r3) (cf .f32 0))))) (res_T rfl (slot rfl)) X7 ?_
  have x8 : (finF (cf .f32 x)) = (fcmp .eql (ford .f32 (cf .f32 r3) (cf .f32 0))) := by first | with_reducible rfl | (simp only [finF, h4]; done) | (simp [finF, h4]; done) | rfl
  exact (by first | rfl | rw [x8])

end Go.Proofs.Ytgmpdiehpimpnaa
