/- contracts of functions, each walked once -/
import Derived.Test.YtodelpmhbdaocaaTy
import Derived.Test.YtodelpmhbdaocaaUni
import Derived.Test.YtodelpmhbdaocaaOwn
import Derived.Test.YtodelpmhbdaocaaBit
namespace Go.Proofs.Ytodelpmhbdaocaa
open Go Go.RowKit
set_option maxRecDepth 100000
set_option maxHeartbeats 3200000
set_option linter.unusedVariables false
set_option linter.unusedSimpArgs false

/- laws.szFloat32S -/
theorem c_laws_szFloat32S (a : Value) (L_a : List Nat) (left : Int) (w : World) (hv_a : Sl RF 1 w a L_a) (hle : left ≤ 1048576) (hge : 0 ≤ left) : Gives Try.prog 21 #[a, (Iv left)] w (fun v w' => ∃ i_1 : Int, v = (Iv i_1) ∧ (i_1 < 0 ∨ ((L_a.length : Int) ≤ left ∧ i_1 = left - L_a.length ∧ 0 ≤ i_1))) := by
  have hlen_a := Sl.len hv_a; obtain ⟨p_a, q_a, rfl⟩ := Sl.shape hv_a
  refine enter [(.slice p_a L_a.length q_a), (Iv left), Ud, Ud, Ud, Ud, Ud, Ud, Ud, Ud, Ud, Ud] Try.func21 rfl Try.ntmps21 rfl ?_
  refine wp_seq_k fun K1 hK1 => ?_
  refine wp_region_lit ?_
  refine q_is (l' := [(.slice p_a L_a.length q_a), (Iv left), Ud, Ud, (Iv 0), Ud, Ud, Ud, Ud, Ud, Ud, Ud]) rfl rfl (does_assign (u := (Iv 0)) (ev rfl)) rfl ?_
  refine wpList_nil (hK1 _ _ ?_)
  refine wp_seq_k fun K2 hK2 => ?_
  refine wp_region_lit ?_
  refine q_is (l' := [(.slice p_a L_a.length q_a), (Iv left), Ud, Ud, (Iv 0), (Iv left), Ud, Ud, Ud, Ud, Ud, Ud]) rfl rfl (does_move (u := (Iv left)) (ev rfl)) rfl ?_
  refine q_is (l' := [(.slice p_a L_a.length q_a), (Iv left), Ud, Ud, (Iv 0), (Iv left), (.slice p_a L_a.length q_a), Ud, Ud, Ud, Ud, Ud]) rfl rfl (does_move (u := (.slice p_a L_a.length q_a)) (ev rfl)) rfl ?_
  refine q_is (l' := [(.slice p_a L_a.length q_a), (Iv left), Ud, Ud, (Iv 0), (Iv left), (.slice p_a L_a.length q_a), (Iv (L_a.length : Int)), Ud, Ud, Ud, Ud]) rfl rfl (does_len_slice Try.underlying32 (ev rfl)) rfl ?_
  refine q_is (l' := [(.slice p_a L_a.length q_a), (Iv left), Ud, Ud, (Iv 0), (Iv left), (.slice p_a L_a.length q_a), (Iv (L_a.length : Int)), (Iv (left - (L_a.length : Int))), Ud, Ud, Ud]) rfl rfl (does_iarith (p := left) (q := (L_a.length : Int)) (r := left - (L_a.length : Int)) (ev rfl) (ev rfl) (.inr (.inl ⟨rfl, (in_i64 (by omega) (by omega)).symm⟩))) rfl ?_
  refine q_is (l' := [(.slice p_a L_a.length q_a), (Iv (left - (L_a.length : Int))), Ud, Ud, (Iv 0), (Iv left), (.slice p_a L_a.length q_a), (Iv (L_a.length : Int)), (Iv (left - (L_a.length : Int))), Ud, Ud, Ud]) rfl rfl (does_assign (u := (Iv (left - (L_a.length : Int)))) (ev rfl)) rfl ?_
  refine wpList_nil (hK2 _ _ ?_)
  refine wp_seq_k fun K3 hK3 => ?_
  refine wp_seq_k fun K4 hK4 => ?_
  refine wp_region_lit ?_
  refine q_is (l' := [(.slice p_a L_a.length q_a), (Iv (left - (L_a.length : Int))), Ud, Ud, (Iv 0), (Iv left), (.slice p_a L_a.length q_a), (Iv (L_a.length : Int)), (Iv (left - (L_a.length : Int))), (Iv (left - (L_a.length : Int))), Ud, Ud]) rfl rfl (does_move (u := (Iv (left - (L_a.length : Int)))) (ev rfl)) rfl ?_
  refine q_is (l' := [(.slice p_a L_a.length q_a), (Iv (left - (L_a.length : Int))), Ud, Ud, (Iv 0), (Iv left), (.slice p_a L_a.length q_a), (Iv (L_a.length : Int)), (Iv (left - (L_a.length : Int))), (Iv (left - (L_a.length : Int))), (Bo (icmp .lss (left - (L_a.length : Int)) 0)), Ud]) rfl rfl (does_icmp (p := left - (L_a.length : Int)) (q := 0) (.inr (.inr (.inl rfl))) (ev rfl) (ev rfl)) rfl ?_
  refine wpList_nil (hK4 _ _ ?_)
  refine wp_cond_split (t := icmp .lss (left - (L_a.length : Int)) 0) (ev rfl) (fun c5 => ?_) (fun c5 => ?_)
  · have c5' := c5
    (try simp only [icmp, Bool.and_eq_true, Bool.or_eq_true, Bool.and_eq_false_iff, Bool.or_eq_false_iff, Bool.not_eq_true', Bool.not_eq_false', decide_eq_true_eq, decide_eq_false_iff_not, beq_iff_eq, bne_iff_ne, beq_eq_false_iff_ne, bne_eq_false_iff_eq] at c5')
    refine wp_seq_k fun K6 hK6 => ?_
    refine wp_region_lit ?_
    refine q_is (l' := [(.slice p_a L_a.length q_a), (Iv (left - (L_a.length : Int))), Ud, Ud, (Iv (-1)), (Iv left), (.slice p_a L_a.length q_a), (Iv (L_a.length : Int)), (Iv (left - (L_a.length : Int))), (Iv (left - (L_a.length : Int))), (Bo (icmp .lss (left - (L_a.length : Int)) 0)), Ud]) rfl rfl (does_assign (u := (Iv (-1))) (ev rfl)) rfl ?_
    refine wpList_nil (hK6 _ _ ?_)
    refine wp_ret ?_
    dsimp only [Exit.then, Exit.inBlock]
    refine ret_val (v := (Iv (-1))) (res_T rfl (slot rfl)) (Ext.refl w) ?_
    have x7 : (-1) < 0 ∨ ((L_a.length : Int) ≤ left ∧ (-1) = left - L_a.length ∧ 0 ≤ (-1)) := by omega
    exact ⟨(-1), rfl, x7⟩
  have c5' := c5
  (try simp only [icmp, Bool.and_eq_true, Bool.or_eq_true, Bool.and_eq_false_iff, Bool.or_eq_false_iff, Bool.not_eq_true', Bool.not_eq_false', decide_eq_true_eq, decide_eq_false_iff_not, beq_iff_eq, bne_iff_ne, beq_eq_false_iff_ne, bne_eq_false_iff_eq] at c5')
  refine wp_skip (hK3 _ _ ?_)
  refine wp_seq_k fun K8 hK8 => ?_
  refine wp_region_lit ?_
  refine q_is (l' := [(.slice p_a L_a.length q_a), (Iv (left - (L_a.length : Int))), Ud, Ud, (Iv 0), (Iv left), (.slice p_a L_a.length q_a), (Iv (L_a.length : Int)), (Iv (left - (L_a.length : Int))), (Iv (left - (L_a.length : Int))), (Bo (icmp .lss (left - (L_a.length : Int)) 0)), (Iv (left - (L_a.length : Int)))]) rfl rfl (does_move (u := (Iv (left - (L_a.length : Int)))) (ev rfl)) rfl ?_
  refine q_is (l' := [(.slice p_a L_a.length q_a), (Iv (left - (L_a.length : Int))), Ud, Ud, (Iv (left - (L_a.length : Int))), (Iv left), (.slice p_a L_a.length q_a), (Iv (L_a.length : Int)), (Iv (left - (L_a.length : Int))), (Iv (left - (L_a.length : Int))), (Bo (icmp .lss (left - (L_a.length : Int)) 0)), (Iv (left - (L_a.length : Int)))]) rfl rfl (does_assign (u := (Iv (left - (L_a.length : Int)))) (ev rfl)) rfl ?_
  refine wpList_nil (hK8 _ _ ?_)
  refine wp_ret ?_
  refine ret_val (v := (Iv (left - (L_a.length : Int)))) (res_T rfl (slot rfl)) (Ext.refl w) ?_
  have x9 : (left - (L_a.length : Int)) < 0 ∨ ((L_a.length : Int) ≤ left ∧ (left - (L_a.length : Int)) = left - L_a.length ∧ 0 ≤ (left - (L_a.length : Int))) := by omega
  exact ⟨(left - (L_a.length : Int)), rfl, x9⟩

/- laws.szNode -/
theorem c_laws_szNode (a : List Value) (A_a : NodeT) (left : Int) (w : World) (hv_a : RNodeT w A_a a) (hle : left ≤ 1048576) (hge : 0 ≤ left) : Gives Try.prog 10 #[(.agg a.toArray), (Iv left)] w (fun v w' => ∃ i_1 : Int, v = (Iv i_1) ∧ (i_1 < 0 ∨ ((A_a.nums.length : Int) ≤ left ∧ i_1 = left - A_a.nums.length ∧ 0 ≤ i_1))) := by
  obtain ⟨y1, rfl, h2⟩ := hv_a
  have hs5 := h2; have hs5l := Sl.len h2; obtain ⟨p3, q4, rfl⟩ := Sl.shape h2
  refine enter [(.agg #[(Iv A_a.kind), (Iv A_a.a), (Iv A_a.b), (.slice p3 A_a.nums.length q4)]), (Iv left), Ud, Ud, Ud, Ud, Ud, Ud, Ud, Ud, Ud, Ud] Try.func10 rfl Try.ntmps10 rfl ?_
  refine wp_seq_k fun K6 hK6 => ?_
  refine wp_region_lit ?_
  refine seqd rfl rfl (does_box (u := (.agg #[(Iv A_a.kind), (Iv A_a.a), (Iv A_a.b), (.slice p3 A_a.nums.length q4)])) (ev rfl)) ?_; rintro _ w11 ⟨b7, rfl, hb8, hB9, E10⟩
  have g12 : w.heap.size ≤ b7 := Nat.le_trans (Below.size (Ext.refl w)) hb8
  change Blk _ _ [(Iv A_a.kind), (Iv A_a.a), (Iv A_a.b), (.slice p3 A_a.nums.length q4)] at hB9
  have X13 := Ext.gr (Ext.refl w) E10
  show wpList _ _ _ _ (fr [(.agg #[(Iv A_a.kind), (Iv A_a.a), (Iv A_a.b), (.slice p3 A_a.nums.length q4)]), (Iv left), (Pt b7 0), Ud, Ud, Ud, Ud, Ud, Ud, Ud, Ud, Ud]) _
  refine q_is (l' := [(.agg #[(Iv A_a.kind), (Iv A_a.a), (Iv A_a.b), (.slice p3 A_a.nums.length q4)]), (Iv left), (Pt b7 0), Ud, (Iv 0), Ud, Ud, Ud, Ud, Ud, Ud, Ud]) rfl rfl (does_assign (u := (Iv 0)) (ev rfl)) rfl ?_
  refine wpList_nil (hK6 _ _ ?_)
  refine wp_seq_k fun K14 hK14 => ?_
  refine wp_region_lit ?_
  refine q_is (l' := [(.agg #[(Iv A_a.kind), (Iv A_a.a), (Iv A_a.b), (.slice p3 A_a.nums.length q4)]), (Iv left), (Pt b7 0), Ud, (Iv 0), (Pt b7 3), Ud, Ud, Ud, Ud, Ud, Ud]) rfl rfl (does_fieldAddr (ev rfl) fa34_3) rfl ?_
  refine q_is (l' := [(.agg #[(Iv A_a.kind), (Iv A_a.a), (Iv A_a.b), (.slice p3 A_a.nums.length q4)]), (Iv left), (Pt b7 0), Ud, (Iv 0), (Pt b7 3), (.slice p3 A_a.nums.length q4), Ud, Ud, Ud, Ud, Ud]) rfl rfl (does_load (u := (.slice p3 A_a.nums.length q4)) (ev rfl) Try.isAgg32 (Cells.at (Blk.cells hB9) 3 rfl)) rfl ?_
  refine q_is (l' := [(.agg #[(Iv A_a.kind), (Iv A_a.a), (Iv A_a.b), (.slice p3 A_a.nums.length q4)]), (Iv left), (Pt b7 0), Ud, (Iv 0), (Pt b7 3), (.slice p3 A_a.nums.length q4), (Iv left), Ud, Ud, Ud, Ud]) rfl rfl (does_move (u := (Iv left)) (ev rfl)) rfl ?_
  refine seqd rfl rfl (does_call (args := #[(.slice p3 A_a.nums.length q4), (Iv left)]) cal21 (evs rfl) (c_laws_szFloat32S (.slice p3 A_a.nums.length q4) A_a.nums left _ (Sl.ext hs5 RF.mono X13) (by omega) (by omega))) ?_; rintro _ w16 ⟨E15, ⟨i17, rfl, h18⟩⟩
  have X19 := Ext.gr X13 E15
  show wpList _ _ _ _ (fr [(.agg #[(Iv A_a.kind), (Iv A_a.a), (Iv A_a.b), (.slice p3 A_a.nums.length q4)]), (Iv left), (Pt b7 0), Ud, (Iv 0), (Pt b7 3), (.slice p3 A_a.nums.length q4), (Iv left), (Iv i17), Ud, Ud, Ud]) _
  refine q_is (l' := [(.agg #[(Iv A_a.kind), (Iv A_a.a), (Iv A_a.b), (.slice p3 A_a.nums.length q4)]), (Iv i17), (Pt b7 0), Ud, (Iv 0), (Pt b7 3), (.slice p3 A_a.nums.length q4), (Iv left), (Iv i17), Ud, Ud, Ud]) rfl rfl (does_assign (u := (Iv i17)) (ev rfl)) rfl ?_
  refine wpList_nil (hK14 _ _ ?_)
  refine wp_seq_k fun K20 hK20 => ?_
  refine wp_seq_k fun K21 hK21 => ?_
  refine wp_region_lit ?_
  refine q_is (l' := [(.agg #[(Iv A_a.kind), (Iv A_a.a), (Iv A_a.b), (.slice p3 A_a.nums.length q4)]), (Iv i17), (Pt b7 0), Ud, (Iv 0), (Pt b7 3), (.slice p3 A_a.nums.length q4), (Iv left), (Iv i17), (Iv i17), Ud, Ud]) rfl rfl (does_move (u := (Iv i17)) (ev rfl)) rfl ?_
  refine q_is (l' := [(.agg #[(Iv A_a.kind), (Iv A_a.a), (Iv A_a.b), (.slice p3 A_a.nums.length q4)]), (Iv i17), (Pt b7 0), Ud, (Iv 0), (Pt b7 3), (.slice p3 A_a.nums.length q4), (Iv left), (Iv i17), (Iv i17), (Bo (icmp .lss i17 0)), Ud]) rfl rfl (does_icmp (p := i17) (q := 0) (.inr (.inr (.inl rfl))) (ev rfl) (ev rfl)) rfl ?_
  refine wpList_nil (hK21 _ _ ?_)
  refine wp_cond_split (t := icmp .lss i17 0) (ev rfl) (fun c22 => ?_) (fun c22 => ?_)
  · have c22' := c22
    (try simp only [icmp, Bool.and_eq_true, Bool.or_eq_true, Bool.and_eq_false_iff, Bool.or_eq_false_iff, Bool.not_eq_true', Bool.not_eq_false', decide_eq_true_eq, decide_eq_false_iff_not, beq_iff_eq, bne_iff_ne, beq_eq_false_iff_ne, bne_eq_false_iff_eq] at c22')
    refine wp_seq_k fun K23 hK23 => ?_
    refine wp_region_lit ?_
    refine q_is (l' := [(.agg #[(Iv A_a.kind), (Iv A_a.a), (Iv A_a.b), (.slice p3 A_a.nums.length q4)]), (Iv i17), (Pt b7 0), Ud, (Iv (-1)), (Pt b7 3), (.slice p3 A_a.nums.length q4), (Iv left), (Iv i17), (Iv i17), (Bo (icmp .lss i17 0)), Ud]) rfl rfl (does_assign (u := (Iv (-1))) (ev rfl)) rfl ?_
    refine wpList_nil (hK23 _ _ ?_)
    refine wp_ret ?_
    dsimp only [Exit.then, Exit.inBlock]
    refine ret_val (v := (Iv (-1))) (res_T rfl (slot rfl)) X19 ?_
    have x24 : (-1) < 0 ∨ ((A_a.nums.length : Int) ≤ left ∧ (-1) = left - A_a.nums.length ∧ 0 ≤ (-1)) := by omega
    exact ⟨(-1), rfl, x24⟩
  have c22' := c22
  (try simp only [icmp, Bool.and_eq_true, Bool.or_eq_true, Bool.and_eq_false_iff, Bool.or_eq_false_iff, Bool.not_eq_true', Bool.not_eq_false', decide_eq_true_eq, decide_eq_false_iff_not, beq_iff_eq, bne_iff_ne, beq_eq_false_iff_ne, bne_eq_false_iff_eq] at c22')
  refine wp_skip (hK20 _ _ ?_)
  refine wp_seq_k fun K25 hK25 => ?_
  refine wp_region_lit ?_
  refine q_is (l' := [(.agg #[(Iv A_a.kind), (Iv A_a.a), (Iv A_a.b), (.slice p3 A_a.nums.length q4)]), (Iv i17), (Pt b7 0), Ud, (Iv 0), (Pt b7 3), (.slice p3 A_a.nums.length q4), (Iv left), (Iv i17), (Iv i17), (Bo (icmp .lss i17 0)), (Iv i17)]) rfl rfl (does_move (u := (Iv i17)) (ev rfl)) rfl ?_
  refine q_is (l' := [(.agg #[(Iv A_a.kind), (Iv A_a.a), (Iv A_a.b), (.slice p3 A_a.nums.length q4)]), (Iv i17), (Pt b7 0), Ud, (Iv i17), (Pt b7 3), (.slice p3 A_a.nums.length q4), (Iv left), (Iv i17), (Iv i17), (Bo (icmp .lss i17 0)), (Iv i17)]) rfl rfl (does_assign (u := (Iv i17)) (ev rfl)) rfl ?_
  refine wpList_nil (hK25 _ _ ?_)
  refine wp_ret ?_
  refine ret_val (v := (Iv i17)) (res_T rfl (slot rfl)) X19 ?_
  have x26 : i17 < 0 ∨ ((A_a.nums.length : Int) ≤ left ∧ i17 = left - A_a.nums.length ∧ 0 ≤ i17) := by omega
  exact ⟨i17, rfl, x26⟩

/- laws.szStep -/
theorem c_laws_szStep (a : List Value) (A_a : StepT) (left : Int) (w : World) (hv_a : RStepT w A_a a) (hle : left ≤ 1048576) (hge : 0 ≤ left) : Gives Try.prog 28 #[(.agg a.toArray), (Iv left)] w (fun v w' => ∃ i_1 : Int, v = (Iv i_1) ∧ (i_1 < 0 ∨ ((A_a.node.nums.length : Int) ≤ left ∧ i_1 = left - A_a.node.nums.length ∧ 0 ≤ i_1))) := by
  obtain ⟨y1, rfl, h2⟩ := hv_a
  have hs5 := h2; have hs5l := Sl.len h2; obtain ⟨p3, q4, rfl⟩ := Sl.shape h2
  refine enter [(.agg #[(Iv A_a.kind), (Iv A_a.to), (Iv A_a.a), (Iv A_a.b), (Iv A_a.node.kind), (Iv A_a.node.a), (Iv A_a.node.b), (.slice p3 A_a.node.nums.length q4)]), (Iv left), Ud, Ud, Ud, Ud, Ud, Ud, Ud, Ud, Ud, Ud] Try.func28 rfl Try.ntmps28 rfl ?_
  refine wp_seq_k fun K6 hK6 => ?_
  refine wp_region_lit ?_
  refine seqd rfl rfl (does_box (u := (.agg #[(Iv A_a.kind), (Iv A_a.to), (Iv A_a.a), (Iv A_a.b), (Iv A_a.node.kind), (Iv A_a.node.a), (Iv A_a.node.b), (.slice p3 A_a.node.nums.length q4)])) (ev rfl)) ?_; rintro _ w11 ⟨b7, rfl, hb8, hB9, E10⟩
  have g12 : w.heap.size ≤ b7 := Nat.le_trans (Below.size (Ext.refl w)) hb8
  change Blk _ _ [(Iv A_a.kind), (Iv A_a.to), (Iv A_a.a), (Iv A_a.b), (Iv A_a.node.kind), (Iv A_a.node.a), (Iv A_a.node.b), (.slice p3 A_a.node.nums.length q4)] at hB9
  have X13 := Ext.gr (Ext.refl w) E10
  show wpList _ _ _ _ (fr [(.agg #[(Iv A_a.kind), (Iv A_a.to), (Iv A_a.a), (Iv A_a.b), (Iv A_a.node.kind), (Iv A_a.node.a), (Iv A_a.node.b), (.slice p3 A_a.node.nums.length q4)]), (Iv left), (Pt b7 0), Ud, Ud, Ud, Ud, Ud, Ud, Ud, Ud, Ud]) _
  refine q_is (l' := [(.agg #[(Iv A_a.kind), (Iv A_a.to), (Iv A_a.a), (Iv A_a.b), (Iv A_a.node.kind), (Iv A_a.node.a), (Iv A_a.node.b), (.slice p3 A_a.node.nums.length q4)]), (Iv left), (Pt b7 0), Ud, (Iv 0), Ud, Ud, Ud, Ud, Ud, Ud, Ud]) rfl rfl (does_assign (u := (Iv 0)) (ev rfl)) rfl ?_
  refine wpList_nil (hK6 _ _ ?_)
  refine wp_seq_k fun K14 hK14 => ?_
  refine wp_region_lit ?_
  refine q_is (l' := [(.agg #[(Iv A_a.kind), (Iv A_a.to), (Iv A_a.a), (Iv A_a.b), (Iv A_a.node.kind), (Iv A_a.node.a), (Iv A_a.node.b), (.slice p3 A_a.node.nums.length q4)]), (Iv left), (Pt b7 0), Ud, (Iv 0), (Pt b7 4), Ud, Ud, Ud, Ud, Ud, Ud]) rfl rfl (does_fieldAddr (ev rfl) fa57_4) rfl ?_
  refine q_is (l' := [(.agg #[(Iv A_a.kind), (Iv A_a.to), (Iv A_a.a), (Iv A_a.b), (Iv A_a.node.kind), (Iv A_a.node.a), (Iv A_a.node.b), (.slice p3 A_a.node.nums.length q4)]), (Iv left), (Pt b7 0), Ud, (Iv 0), (Pt b7 4), (.agg #[(Iv A_a.node.kind), (Iv A_a.node.a), (Iv A_a.node.b), (.slice p3 A_a.node.nums.length q4)]), Ud, Ud, Ud, Ud, Ud]) rfl rfl (does_loadAgg (cs := [(Iv A_a.node.kind), (Iv A_a.node.a), (Iv A_a.node.b), (.slice p3 A_a.node.nums.length q4)]) (ev rfl) Try.isAgg34 Try.sizeOf34 (Cells.sub (Blk.cells hB9) 4 4) rfl) rfl ?_
  refine q_is (l' := [(.agg #[(Iv A_a.kind), (Iv A_a.to), (Iv A_a.a), (Iv A_a.b), (Iv A_a.node.kind), (Iv A_a.node.a), (Iv A_a.node.b), (.slice p3 A_a.node.nums.length q4)]), (Iv left), (Pt b7 0), Ud, (Iv 0), (Pt b7 4), (.agg #[(Iv A_a.node.kind), (Iv A_a.node.a), (Iv A_a.node.b), (.slice p3 A_a.node.nums.length q4)]), (Iv left), Ud, Ud, Ud, Ud]) rfl rfl (does_move (u := (Iv left)) (ev rfl)) rfl ?_
  refine seqd rfl rfl (does_call (args := #[(.agg #[(Iv A_a.node.kind), (Iv A_a.node.a), (Iv A_a.node.b), (.slice p3 A_a.node.nums.length q4)]), (Iv left)]) cal10 (evs rfl) (c_laws_szNode [(Iv A_a.node.kind), (Iv A_a.node.a), (Iv A_a.node.b), (.slice p3 A_a.node.nums.length q4)] A_a.node left _ ⟨(.slice p3 A_a.node.nums.length q4), rfl, (Sl.ext hs5 RF.mono X13)⟩ (by omega) (by omega))) ?_; rintro _ w16 ⟨E15, ⟨i17, rfl, h18⟩⟩
  have X19 := Ext.gr X13 E15
  show wpList _ _ _ _ (fr [(.agg #[(Iv A_a.kind), (Iv A_a.to), (Iv A_a.a), (Iv A_a.b), (Iv A_a.node.kind), (Iv A_a.node.a), (Iv A_a.node.b), (.slice p3 A_a.node.nums.length q4)]), (Iv left), (Pt b7 0), Ud, (Iv 0), (Pt b7 4), (.agg #[(Iv A_a.node.kind), (Iv A_a.node.a), (Iv A_a.node.b), (.slice p3 A_a.node.nums.length q4)]), (Iv left), (Iv i17), Ud, Ud, Ud]) _
  refine q_is (l' := [(.agg #[(Iv A_a.kind), (Iv A_a.to), (Iv A_a.a), (Iv A_a.b), (Iv A_a.node.kind), (Iv A_a.node.a), (Iv A_a.node.b), (.slice p3 A_a.node.nums.length q4)]), (Iv i17), (Pt b7 0), Ud, (Iv 0), (Pt b7 4), (.agg #[(Iv A_a.node.kind), (Iv A_a.node.a), (Iv A_a.node.b), (.slice p3 A_a.node.nums.length q4)]), (Iv left), (Iv i17), Ud, Ud, Ud]) rfl rfl (does_assign (u := (Iv i17)) (ev rfl)) rfl ?_
  refine wpList_nil (hK14 _ _ ?_)
  refine wp_seq_k fun K20 hK20 => ?_
  refine wp_seq_k fun K21 hK21 => ?_
  refine wp_region_lit ?_
  refine q_is (l' := [(.agg #[(Iv A_a.kind), (Iv A_a.to), (Iv A_a.a), (Iv A_a.b), (Iv A_a.node.kind), (Iv A_a.node.a), (Iv A_a.node.b), (.slice p3 A_a.node.nums.length q4)]), (Iv i17), (Pt b7 0), Ud, (Iv 0), (Pt b7 4), (.agg #[(Iv A_a.node.kind), (Iv A_a.node.a), (Iv A_a.node.b), (.slice p3 A_a.node.nums.length q4)]), (Iv left), (Iv i17), (Iv i17), Ud, Ud]) rfl rfl (does_move (u := (Iv i17)) (ev rfl)) rfl ?_
  refine q_is (l' := [(.agg #[(Iv A_a.kind), (Iv A_a.to), (Iv A_a.a), (Iv A_a.b), (Iv A_a.node.kind), (Iv A_a.node.a), (Iv A_a.node.b), (.slice p3 A_a.node.nums.length q4)]), (Iv i17), (Pt b7 0), Ud, (Iv 0), (Pt b7 4), (.agg #[(Iv A_a.node.kind), (Iv A_a.node.a), (Iv A_a.node.b), (.slice p3 A_a.node.nums.length q4)]), (Iv left), (Iv i17), (Iv i17), (Bo (icmp .lss i17 0)), Ud]) rfl rfl (does_icmp (p := i17) (q := 0) (.inr (.inr (.inl rfl))) (ev rfl) (ev rfl)) rfl ?_
  refine wpList_nil (hK21 _ _ ?_)
  refine wp_cond_split (t := icmp .lss i17 0) (ev rfl) (fun c22 => ?_) (fun c22 => ?_)
  · have c22' := c22
    (try simp only [icmp, Bool.and_eq_true, Bool.or_eq_true, Bool.and_eq_false_iff, Bool.or_eq_false_iff, Bool.not_eq_true', Bool.not_eq_false', decide_eq_true_eq, decide_eq_false_iff_not, beq_iff_eq, bne_iff_ne, beq_eq_false_iff_ne, bne_eq_false_iff_eq] at c22')
    refine wp_seq_k fun K23 hK23 => ?_
    refine wp_region_lit ?_
    refine q_is (l' := [(.agg #[(Iv A_a.kind), (Iv A_a.to), (Iv A_a.a), (Iv A_a.b), (Iv A_a.node.kind), (Iv A_a.node.a), (Iv A_a.node.b), (.slice p3 A_a.node.nums.length q4)]), (Iv i17), (Pt b7 0), Ud, (Iv (-1)), (Pt b7 4), (.agg #[(Iv A_a.node.kind), (Iv A_a.node.a), (Iv A_a.node.b), (.slice p3 A_a.node.nums.length q4)]), (Iv left), (Iv i17), (Iv i17), (Bo (icmp .lss i17 0)), Ud]) rfl rfl (does_assign (u := (Iv (-1))) (ev rfl)) rfl ?_
    refine wpList_nil (hK23 _ _ ?_)
    refine wp_ret ?_
    dsimp only [Exit.then, Exit.inBlock]
    refine ret_val (v := (Iv (-1))) (res_T rfl (slot rfl)) X19 ?_
    have x24 : (-1) < 0 ∨ ((A_a.node.nums.length : Int) ≤ left ∧ (-1) = left - A_a.node.nums.length ∧ 0 ≤ (-1)) := by omega
    exact ⟨(-1), rfl, x24⟩
  have c22' := c22
  (try simp only [icmp, Bool.and_eq_true, Bool.or_eq_true, Bool.and_eq_false_iff, Bool.or_eq_false_iff, Bool.not_eq_true', Bool.not_eq_false', decide_eq_true_eq, decide_eq_false_iff_not, beq_iff_eq, bne_iff_ne, beq_eq_false_iff_ne, bne_eq_false_iff_eq] at c22')
  refine wp_skip (hK20 _ _ ?_)
  refine wp_seq_k fun K25 hK25 => ?_
  refine wp_region_lit ?_
  refine q_is (l' := [(.agg #[(Iv A_a.kind), (Iv A_a.to), (Iv A_a.a), (Iv A_a.b), (Iv A_a.node.kind), (Iv A_a.node.a), (Iv A_a.node.b), (.slice p3 A_a.node.nums.length q4)]), (Iv i17), (Pt b7 0), Ud, (Iv 0), (Pt b7 4), (.agg #[(Iv A_a.node.kind), (Iv A_a.node.a), (Iv A_a.node.b), (.slice p3 A_a.node.nums.length q4)]), (Iv left), (Iv i17), (Iv i17), (Bo (icmp .lss i17 0)), (Iv i17)]) rfl rfl (does_move (u := (Iv i17)) (ev rfl)) rfl ?_
  refine q_is (l' := [(.agg #[(Iv A_a.kind), (Iv A_a.to), (Iv A_a.a), (Iv A_a.b), (Iv A_a.node.kind), (Iv A_a.node.a), (Iv A_a.node.b), (.slice p3 A_a.node.nums.length q4)]), (Iv i17), (Pt b7 0), Ud, (Iv i17), (Pt b7 4), (.agg #[(Iv A_a.node.kind), (Iv A_a.node.a), (Iv A_a.node.b), (.slice p3 A_a.node.nums.length q4)]), (Iv left), (Iv i17), (Iv i17), (Bo (icmp .lss i17 0)), (Iv i17)]) rfl rfl (does_assign (u := (Iv i17)) (ev rfl)) rfl ?_
  refine wpList_nil (hK25 _ _ ?_)
  refine wp_ret ?_
  refine ret_val (v := (Iv i17)) (res_T rfl (slot rfl)) X19 ?_
  have x26 : i17 < 0 ∨ ((A_a.node.nums.length : Int) ≤ left ∧ i17 = left - A_a.node.nums.length ∧ 0 ≤ i17) := by omega
  exact ⟨i17, rfl, x26⟩

/- laws.szStepS -/
theorem c_laws_szStepS (a : Value) (L_a : List StepT) (left : Int) (w : World) (hv_a : Sl RStepT 8 w a L_a) (hle : left ≤ 1048576) (hge : 0 ≤ left) : Gives Try.prog 15 #[a, (Iv left)] w (fun v w' => ∃ i_1 : Int, v = (Iv i_1) ∧ (i_1 < 0 ∨ ((stTot L_a : Int) ≤ left ∧ i_1 = left - stTot L_a ∧ 0 ≤ i_1))) := by
  have hlen_a := Sl.len hv_a; obtain ⟨p_a, q_a, rfl⟩ := Sl.shape hv_a
  refine enter [(.slice p_a L_a.length q_a), (Iv left), Ud, Ud, Ud, Ud, Ud, Ud, Ud, Ud, Ud, Ud, Ud, Ud, Ud, Ud, Ud, Ud, Ud, Ud, Ud, Ud, Ud, Ud, Ud, Ud, Ud] Try.func15 rfl Try.ntmps15 rfl ?_
  refine wp_seq_k fun K1 hK1 => ?_
  refine wp_region_lit ?_
  refine q_is rfl rfl (does_assign (u := (Iv 0)) (ev rfl)) (by dsimp only [List.set]; try rfl) ?_
  refine wpList_nil (hK1 _ _ ?_)
  refine wp_seq_k fun K2 hK2 => ?_
  refine wp_region_lit ?_
  refine q_is rfl rfl (does_move (u := (Iv left)) (ev rfl)) (by dsimp only [List.set]; try rfl) ?_
  refine q_is rfl rfl (does_move (u := (.slice p_a L_a.length q_a)) (ev rfl)) (by dsimp only [List.set]; try rfl) ?_
  refine q_is rfl rfl (does_len_slice Try.underlying22 (ev rfl)) (by dsimp only [List.set]; try rfl) ?_
  refine q_is rfl rfl (does_iarith (p := left) (q := (L_a.length : Int)) (r := left - (L_a.length : Int)) (ev rfl) (ev rfl) (.inr (.inl ⟨rfl, (in_i64 (by omega) (by omega)).symm⟩))) (by dsimp only [List.set]; try rfl) ?_
  refine q_is rfl rfl (does_assign (u := (Iv (left - (L_a.length : Int)))) (ev rfl)) (by dsimp only [List.set]; try rfl) ?_
  refine wpList_nil (hK2 _ _ ?_)
  refine wp_seq_k fun K3 hK3 => ?_
  refine wp_seq_k fun K4 hK4 => ?_
  refine wp_region_lit ?_
  refine q_is rfl rfl (does_move (u := (Iv (left - (L_a.length : Int)))) (ev rfl)) (by dsimp only [List.set]; try rfl) ?_
  refine q_is rfl rfl (does_icmp (p := left - (L_a.length : Int)) (q := 0) (.inr (.inr (.inl rfl))) (ev rfl) (ev rfl)) (by dsimp only [List.set]; try rfl) ?_
  refine wpList_nil (hK4 _ _ ?_)
  refine wp_cond_split (t := icmp .lss (left - (L_a.length : Int)) 0) (ev rfl) (fun c5 => ?_) (fun c5 => ?_)
  · have c5' := c5
    (try simp only [icmp, Bool.and_eq_true, Bool.or_eq_true, Bool.and_eq_false_iff, Bool.or_eq_false_iff, Bool.not_eq_true', Bool.not_eq_false', decide_eq_true_eq, decide_eq_false_iff_not, beq_iff_eq, bne_iff_ne, beq_eq_false_iff_ne, bne_eq_false_iff_eq] at c5')
    refine wp_seq_k fun K6 hK6 => ?_
    refine wp_region_lit ?_
    refine q_is rfl rfl (does_assign (u := (Iv (-1))) (ev rfl)) (by dsimp only [List.set]; try rfl) ?_
    refine wpList_nil (hK6 _ _ ?_)
    refine wp_ret ?_
    dsimp only [Exit.then, Exit.inBlock]
    refine ret_val (v := (Iv (-1))) (res_T rfl (slot rfl)) (Ext.refl w) ?_
    have x7 : (-1) < 0 ∨ ((stTot L_a : Int) ≤ left ∧ (-1) = left - stTot L_a ∧ 0 ≤ (-1)) := by first | omega | (have hle : s.1 = L_a.length := (by omega); rw [hle] at hn; right; unfold stTot; omega)
    exact ⟨(-1), rfl, x7⟩
  have c5' := c5
  (try simp only [icmp, Bool.and_eq_true, Bool.or_eq_true, Bool.and_eq_false_iff, Bool.or_eq_false_iff, Bool.not_eq_true', Bool.not_eq_false', decide_eq_true_eq, decide_eq_false_iff_not, beq_iff_eq, bne_iff_ne, beq_eq_false_iff_ne, bne_eq_false_iff_eq] at c5')
  refine wp_skip (hK3 _ _ ?_)
  refine wp_seq_k fun K8 hK8 => ?_
  refine wp_seq_k fun K9 hK9 => ?_
  refine wp_region_lit ?_
  refine q_is rfl rfl (does_assign (u := (Iv 0)) (ev rfl)) (by dsimp only [List.set]; try rfl) ?_
  refine wpList_nil (hK9 _ _ ?_)
  refine wp_block ?_
  refine loop_ghost (σ := Nat × Int) (fun s a w' => ∃ u10 : Nat → Value, a = fr [(.slice p_a L_a.length q_a), (Iv s.2), Ud, Ud, (u10 4), (Iv (s.1 : Int)), (Iv left), (.slice p_a L_a.length q_a), (Iv (L_a.length : Int)), (Iv (left - (L_a.length : Int))), (Iv (left - (L_a.length : Int))), (Bo (icmp .lss (left - (L_a.length : Int)) 0)), (u10 12), (u10 13), (u10 14), (u10 15), (u10 16), (u10 17), (u10 18), (u10 19), (u10 20), (u10 21), (u10 22), (u10 23), (u10 24), (u10 25), Ud] ∧ Ext w w' ∧ (s.1 ≤ L_a.length ∧ s.2 = left - L_a.length - (stSum L_a s.1 : Nat) ∧ 0 ≤ s.2)) (fun s => L_a.length - s.1) (0, left - L_a.length) ?_ ?_
  · refine ⟨fun t => (([(.slice p_a L_a.length q_a), (Iv (left - (L_a.length : Int))), Ud, Ud, (Iv 0), (Iv 0), (Iv left), (.slice p_a L_a.length q_a), (Iv (L_a.length : Int)), (Iv (left - (L_a.length : Int))), (Iv (left - (L_a.length : Int))), (Bo (icmp .lss (left - (L_a.length : Int)) 0)), Ud, Ud, Ud, Ud, Ud, Ud, Ud, Ud, Ud, Ud, Ud, Ud, Ud, Ud, Ud] : List Value)[t]?).getD undef, rfl, Ext.refl _, ?_⟩
    exact ⟨Nat.zero_le _, by simp [stSum], by omega⟩
  · rintro s a w11 ⟨u10, rfl, E12, ⟨hk, hn, h0⟩⟩
    have X14 := Ext.gr (Ext.refl w) E12
    refine wp_seq_k fun K15 hK15 => ?_
    refine wp_seq_k fun K16 hK16 => ?_
    refine wp_region_lit ?_
    refine q_is rfl rfl (does_move (u := (Iv (s.1 : Int))) (ev rfl)) (by dsimp only [List.set]; try rfl) ?_
    refine q_is rfl rfl (does_move (u := (.slice p_a L_a.length q_a)) (ev rfl)) (by dsimp only [List.set]; try rfl) ?_
    refine q_is rfl rfl (does_len_slice Try.underlying22 (ev rfl)) (by dsimp only [List.set]; try rfl) ?_
    refine q_is rfl rfl (does_icmp (p := (s.1 : Int)) (q := (L_a.length : Int)) (.inr (.inr (.inl rfl))) (ev rfl) (ev rfl)) (by dsimp only [List.set]; try rfl) ?_
    refine wpList_nil (hK16 _ _ ?_)
    refine wp_cond_split (t := icmp .lss (s.1 : Int) (L_a.length : Int)) (ev rfl) (fun c17 => ?_) (fun c17 => ?_)
    · have c17' := c17
      (try simp only [icmp, Bool.and_eq_true, Bool.or_eq_true, Bool.and_eq_false_iff, Bool.or_eq_false_iff, Bool.not_eq_true', Bool.not_eq_false', decide_eq_true_eq, decide_eq_false_iff_not, beq_iff_eq, bne_iff_ne, beq_eq_false_iff_ne, bne_eq_false_iff_eq] at c17')
      refine wp_skip (hK15 _ _ ?_)
      refine wp_seq_k fun K18 hK18 => ?_
      refine wp_block ?_
      refine wp_seq_k fun K19 hK19 => ?_
      refine wp_region_lit ?_
      refine q_is rfl rfl (does_move (u := (.slice p_a L_a.length q_a)) (ev rfl)) (by dsimp only [List.set]; try rfl) ?_
      refine q_is rfl rfl (does_move (u := (Iv (s.1 : Int))) (ev rfl)) (by dsimp only [List.set]; try rfl) ?_
      obtain ⟨el1, hel1⟩ : ∃ e, L_a[s.1]? = some e := ⟨_, List.getElem?_eq_getElem (by omega)⟩
      refine seqd rfl rfl (does_indexSl (R := RStepT) (i := (s.1 : Int)) (xs := L_a) (e := el1) Try.underlying22 Try.sizeOf57 (ev rfl) (ev rfl) (Sl.ext hv_a RStepT.mono X14) (by omega) hel1) ?_; rintro _ w11 ⟨b20, o21, _, rfl, hc23, ⟨y24, rfl, h25⟩, rfl⟩
      have hs28 := h25; have hs28l := Sl.len h25; obtain ⟨p26, q27, rfl⟩ := Sl.shape h25
      show wpList _ _ _ _ (fr [(.slice p_a L_a.length q_a), (Iv s.2), Ud, Ud, (u10 4), (Iv (s.1 : Int)), (Iv left), (.slice p_a L_a.length q_a), (Iv (L_a.length : Int)), (Iv (left - (L_a.length : Int))), (Iv (left - (L_a.length : Int))), (Bo (icmp .lss (left - (L_a.length : Int)) 0)), (Iv (s.1 : Int)), (.slice p_a L_a.length q_a), (Iv (L_a.length : Int)), (Bo (icmp .lss (s.1 : Int) (L_a.length : Int))), (u10 16), (u10 17), (.slice p_a L_a.length q_a), (Iv (s.1 : Int)), (Pt b20 o21), (u10 21), (u10 22), (u10 23), (u10 24), (u10 25), Ud]) _
      refine q_is rfl rfl (does_loadAgg (cs := [(Iv el1.kind), (Iv el1.to), (Iv el1.a), (Iv el1.b), (Iv el1.node.kind), (Iv el1.node.a), (Iv el1.node.b), (.slice p26 el1.node.nums.length q27)]) (ev rfl) Try.isAgg57 Try.sizeOf57 hc23 rfl) (by dsimp only [List.set]; try rfl) ?_
      refine q_is rfl rfl (does_move (u := (Iv s.2)) (ev rfl)) (by dsimp only [List.set]; try rfl) ?_
      refine seqd rfl rfl (does_call (args := #[(.agg #[(Iv el1.kind), (Iv el1.to), (Iv el1.a), (Iv el1.b), (Iv el1.node.kind), (Iv el1.node.a), (Iv el1.node.b), (.slice p26 el1.node.nums.length q27)]), (Iv s.2)]) cal28 (evs rfl) (c_laws_szStep [(Iv el1.kind), (Iv el1.to), (Iv el1.a), (Iv el1.b), (Iv el1.node.kind), (Iv el1.node.a), (Iv el1.node.b), (.slice p26 el1.node.nums.length q27)] el1 s.2 _ ⟨(.slice p26 el1.node.nums.length q27), rfl, hs28⟩ (by omega) (by omega))) ?_; rintro _ w30 ⟨E29, ⟨i31, rfl, h32⟩⟩
      have X33 := Ext.gr X14 E29
      show wpList _ _ _ _ (fr [(.slice p_a L_a.length q_a), (Iv s.2), Ud, Ud, (u10 4), (Iv (s.1 : Int)), (Iv left), (.slice p_a L_a.length q_a), (Iv (L_a.length : Int)), (Iv (left - (L_a.length : Int))), (Iv (left - (L_a.length : Int))), (Bo (icmp .lss (left - (L_a.length : Int)) 0)), (Iv (s.1 : Int)), (.slice p_a L_a.length q_a), (Iv (L_a.length : Int)), (Bo (icmp .lss (s.1 : Int) (L_a.length : Int))), (u10 16), (u10 17), (.slice p_a L_a.length q_a), (Iv (s.1 : Int)), (Pt b20 o21), (.agg #[(Iv el1.kind), (Iv el1.to), (Iv el1.a), (Iv el1.b), (Iv el1.node.kind), (Iv el1.node.a), (Iv el1.node.b), (.slice p26 el1.node.nums.length q27)]), (Iv s.2), (Iv i31), (u10 24), (u10 25), Ud]) _
      refine q_is rfl rfl (does_assign (u := (Iv i31)) (ev rfl)) (by dsimp only [List.set]; try rfl) ?_
      refine wpList_nil (hK19 _ _ ?_)
      refine wp_seq_k fun K34 hK34 => ?_
      refine wp_region_lit ?_
      refine q_is rfl rfl (does_move (u := (Iv i31)) (ev rfl)) (by dsimp only [List.set]; try rfl) ?_
      refine q_is rfl rfl (does_icmp (p := i31) (q := 0) (.inr (.inr (.inl rfl))) (ev rfl) (ev rfl)) (by dsimp only [List.set]; try rfl) ?_
      refine wpList_nil (hK34 _ _ ?_)
      refine wp_cond_split (t := icmp .lss i31 0) (ev rfl) (fun c35 => ?_) (fun c35 => ?_)
      · have c35' := c35
        (try simp only [icmp, Bool.and_eq_true, Bool.or_eq_true, Bool.and_eq_false_iff, Bool.or_eq_false_iff, Bool.not_eq_true', Bool.not_eq_false', decide_eq_true_eq, decide_eq_false_iff_not, beq_iff_eq, bne_iff_ne, beq_eq_false_iff_ne, bne_eq_false_iff_eq] at c35')
        refine wp_seq_k fun K36 hK36 => ?_
        refine wp_region_lit ?_
        refine q_is rfl rfl (does_assign (u := (Iv (-1))) (ev rfl)) (by dsimp only [List.set]; try rfl) ?_
        refine wpList_nil (hK36 _ _ ?_)
        refine wp_ret ?_
        dsimp only [Exit.then, Exit.inBlock]
        refine ret_val (v := (Iv (-1))) (res_T rfl (slot rfl)) X33 ?_
        try simp only [hel1] at c5 c17 c35
        have x37 : (-1) < 0 ∨ ((stTot L_a : Int) ≤ left ∧ (-1) = left - stTot L_a ∧ 0 ≤ (-1)) := by first | omega | (have hle : s.1 = L_a.length := (by omega); rw [hle] at hn; right; unfold stTot; omega)
        exact ⟨(-1), rfl, x37⟩
      have c35' := c35
      (try simp only [icmp, Bool.and_eq_true, Bool.or_eq_true, Bool.and_eq_false_iff, Bool.or_eq_false_iff, Bool.not_eq_true', Bool.not_eq_false', decide_eq_true_eq, decide_eq_false_iff_not, beq_iff_eq, bne_iff_ne, beq_eq_false_iff_ne, bne_eq_false_iff_eq] at c35')
      refine wp_skip (hK18 _ _ ?_)
      refine wp_region_lit ?_
      refine q_is rfl rfl (does_move (u := (Iv (s.1 : Int))) (ev rfl)) (by dsimp only [List.set]; try rfl) ?_
      refine q_is rfl rfl (does_iarith (p := (s.1 : Int)) (q := 1) (r := (s.1 : Int) + 1) (ev rfl) (ev rfl) (.inl ⟨rfl, (in_i64 (by omega) (by omega)).symm⟩)) (by dsimp only [List.set]; try rfl) ?_
      refine q_is rfl rfl (does_assign (u := (Iv ((s.1 : Int) + 1))) (ev rfl)) (by dsimp only [List.set]; try rfl) ?_
      refine wpList_nil ?_
      refine ⟨(s.1 + 1, i31), ⟨fun t => (([(.slice p_a L_a.length q_a), (Iv i31), Ud, Ud, (u10 4), (Iv ((s.1 : Int) + 1)), (Iv left), (.slice p_a L_a.length q_a), (Iv (L_a.length : Int)), (Iv (left - (L_a.length : Int))), (Iv (left - (L_a.length : Int))), (Bo (icmp .lss (left - (L_a.length : Int)) 0)), (Iv (s.1 : Int)), (.slice p_a L_a.length q_a), (Iv (L_a.length : Int)), (Bo (icmp .lss (s.1 : Int) (L_a.length : Int))), (Iv (s.1 : Int)), (Iv ((s.1 : Int) + 1)), (.slice p_a L_a.length q_a), (Iv (s.1 : Int)), (Pt b20 o21), (.agg #[(Iv el1.kind), (Iv el1.to), (Iv el1.a), (Iv el1.b), (Iv el1.node.kind), (Iv el1.node.a), (Iv el1.node.b), (.slice p26 el1.node.nums.length q27)]), (Iv s.2), (Iv i31), (Iv i31), (Bo (icmp .lss i31 0)), Ud] : List Value)[t]?).getD undef, ?_, (Ext.gr E12 E29), ?_⟩, ?_⟩
      · first | rfl | (simp only [Nat.cast_add, Nat.cast_one, Int.natCast_add, Int.natCast_one]; rfl)
      · (try dsimp only); have hss := stSum_succ (by assumption : L_a[s.1]? = some _); refine ⟨by omega, ?_, ?_⟩ <;> (try dsimp only) <;> omega
      · (try dsimp only); omega
    have c17' := c17
    (try simp only [icmp, Bool.and_eq_true, Bool.or_eq_true, Bool.and_eq_false_iff, Bool.or_eq_false_iff, Bool.not_eq_true', Bool.not_eq_false', decide_eq_true_eq, decide_eq_false_iff_not, beq_iff_eq, bne_iff_ne, beq_eq_false_iff_ne, bne_eq_false_iff_eq] at c17')
    refine wp_exit ?_
    refine hK8 _ _ ?_
    refine wp_seq_k fun K38 hK38 => ?_
    refine wp_region_lit ?_
    refine q_is rfl rfl (does_move (u := (Iv s.2)) (ev rfl)) (by dsimp only [List.set]; try rfl) ?_
    refine q_is rfl rfl (does_assign (u := (Iv s.2)) (ev rfl)) (by dsimp only [List.set]; try rfl) ?_
    refine wpList_nil (hK38 _ _ ?_)
    refine wp_ret ?_
    refine ret_val (v := (Iv s.2)) (res_T rfl (slot rfl)) X14 ?_
    have x39 : s.2 < 0 ∨ ((stTot L_a : Int) ≤ left ∧ s.2 = left - stTot L_a ∧ 0 ≤ s.2) := by first | omega | (have hle : s.1 = L_a.length := (by omega); rw [hle] at hn; right; unfold stTot; omega)
    exact ⟨s.2, rfl, x39⟩

/- laws.szProgram -/
theorem c_laws_szProgram (a : List Value) (A_a : ProgT) (left : Int) (w : World) (hv_a : RProgT w A_a a) (hle : left ≤ 1048576) (hge : 0 ≤ left) : Gives Try.prog 5 #[(.agg a.toArray), (Iv left)] w (fun v w' => ∃ i_1 : Int, v = (Iv i_1) ∧ (i_1 < 0 ∨ ((stTot A_a.steps : Int) ≤ left ∧ i_1 = left - stTot A_a.steps ∧ 0 ≤ i_1))) := by
  obtain ⟨y1, rfl, h2⟩ := hv_a
  have hs5 := h2; have hs5l := Sl.len h2; obtain ⟨p3, q4, rfl⟩ := Sl.shape h2
  refine enter [(.agg #[(Iv A_a.points), (Iv A_a.values), (.slice p3 A_a.steps.length q4)]), (Iv left), Ud, Ud, Ud, Ud, Ud, Ud, Ud, Ud, Ud, Ud] Try.func5 rfl Try.ntmps5 rfl ?_
  refine wp_seq_k fun K6 hK6 => ?_
  refine wp_region_lit ?_
  refine seqd rfl rfl (does_box (u := (.agg #[(Iv A_a.points), (Iv A_a.values), (.slice p3 A_a.steps.length q4)])) (ev rfl)) ?_; rintro _ w11 ⟨b7, rfl, hb8, hB9, E10⟩
  have g12 : w.heap.size ≤ b7 := Nat.le_trans (Below.size (Ext.refl w)) hb8
  change Blk _ _ [(Iv A_a.points), (Iv A_a.values), (.slice p3 A_a.steps.length q4)] at hB9
  have X13 := Ext.gr (Ext.refl w) E10
  show wpList _ _ _ _ (fr [(.agg #[(Iv A_a.points), (Iv A_a.values), (.slice p3 A_a.steps.length q4)]), (Iv left), (Pt b7 0), Ud, Ud, Ud, Ud, Ud, Ud, Ud, Ud, Ud]) _
  refine q_is (l' := [(.agg #[(Iv A_a.points), (Iv A_a.values), (.slice p3 A_a.steps.length q4)]), (Iv left), (Pt b7 0), Ud, (Iv 0), Ud, Ud, Ud, Ud, Ud, Ud, Ud]) rfl rfl (does_assign (u := (Iv 0)) (ev rfl)) rfl ?_
  refine wpList_nil (hK6 _ _ ?_)
  refine wp_seq_k fun K14 hK14 => ?_
  refine wp_region_lit ?_
  refine q_is (l' := [(.agg #[(Iv A_a.points), (Iv A_a.values), (.slice p3 A_a.steps.length q4)]), (Iv left), (Pt b7 0), Ud, (Iv 0), (Pt b7 2), Ud, Ud, Ud, Ud, Ud, Ud]) rfl rfl (does_fieldAddr (ev rfl) fa24_2) rfl ?_
  refine q_is (l' := [(.agg #[(Iv A_a.points), (Iv A_a.values), (.slice p3 A_a.steps.length q4)]), (Iv left), (Pt b7 0), Ud, (Iv 0), (Pt b7 2), (.slice p3 A_a.steps.length q4), Ud, Ud, Ud, Ud, Ud]) rfl rfl (does_load (u := (.slice p3 A_a.steps.length q4)) (ev rfl) Try.isAgg22 (Cells.at (Blk.cells hB9) 2 rfl)) rfl ?_
  refine q_is (l' := [(.agg #[(Iv A_a.points), (Iv A_a.values), (.slice p3 A_a.steps.length q4)]), (Iv left), (Pt b7 0), Ud, (Iv 0), (Pt b7 2), (.slice p3 A_a.steps.length q4), (Iv left), Ud, Ud, Ud, Ud]) rfl rfl (does_move (u := (Iv left)) (ev rfl)) rfl ?_
  refine seqd rfl rfl (does_call (args := #[(.slice p3 A_a.steps.length q4), (Iv left)]) cal15 (evs rfl) (c_laws_szStepS (.slice p3 A_a.steps.length q4) A_a.steps left _ (Sl.ext hs5 RStepT.mono X13) (by omega) (by omega))) ?_; rintro _ w16 ⟨E15, ⟨i17, rfl, h18⟩⟩
  have X19 := Ext.gr X13 E15
  show wpList _ _ _ _ (fr [(.agg #[(Iv A_a.points), (Iv A_a.values), (.slice p3 A_a.steps.length q4)]), (Iv left), (Pt b7 0), Ud, (Iv 0), (Pt b7 2), (.slice p3 A_a.steps.length q4), (Iv left), (Iv i17), Ud, Ud, Ud]) _
  refine q_is (l' := [(.agg #[(Iv A_a.points), (Iv A_a.values), (.slice p3 A_a.steps.length q4)]), (Iv i17), (Pt b7 0), Ud, (Iv 0), (Pt b7 2), (.slice p3 A_a.steps.length q4), (Iv left), (Iv i17), Ud, Ud, Ud]) rfl rfl (does_assign (u := (Iv i17)) (ev rfl)) rfl ?_
  refine wpList_nil (hK14 _ _ ?_)
  refine wp_seq_k fun K20 hK20 => ?_
  refine wp_seq_k fun K21 hK21 => ?_
  refine wp_region_lit ?_
  refine q_is (l' := [(.agg #[(Iv A_a.points), (Iv A_a.values), (.slice p3 A_a.steps.length q4)]), (Iv i17), (Pt b7 0), Ud, (Iv 0), (Pt b7 2), (.slice p3 A_a.steps.length q4), (Iv left), (Iv i17), (Iv i17), Ud, Ud]) rfl rfl (does_move (u := (Iv i17)) (ev rfl)) rfl ?_
  refine q_is (l' := [(.agg #[(Iv A_a.points), (Iv A_a.values), (.slice p3 A_a.steps.length q4)]), (Iv i17), (Pt b7 0), Ud, (Iv 0), (Pt b7 2), (.slice p3 A_a.steps.length q4), (Iv left), (Iv i17), (Iv i17), (Bo (icmp .lss i17 0)), Ud]) rfl rfl (does_icmp (p := i17) (q := 0) (.inr (.inr (.inl rfl))) (ev rfl) (ev rfl)) rfl ?_
  refine wpList_nil (hK21 _ _ ?_)
  refine wp_cond_split (t := icmp .lss i17 0) (ev rfl) (fun c22 => ?_) (fun c22 => ?_)
  · have c22' := c22
    (try simp only [icmp, Bool.and_eq_true, Bool.or_eq_true, Bool.and_eq_false_iff, Bool.or_eq_false_iff, Bool.not_eq_true', Bool.not_eq_false', decide_eq_true_eq, decide_eq_false_iff_not, beq_iff_eq, bne_iff_ne, beq_eq_false_iff_ne, bne_eq_false_iff_eq] at c22')
    refine wp_seq_k fun K23 hK23 => ?_
    refine wp_region_lit ?_
    refine q_is (l' := [(.agg #[(Iv A_a.points), (Iv A_a.values), (.slice p3 A_a.steps.length q4)]), (Iv i17), (Pt b7 0), Ud, (Iv (-1)), (Pt b7 2), (.slice p3 A_a.steps.length q4), (Iv left), (Iv i17), (Iv i17), (Bo (icmp .lss i17 0)), Ud]) rfl rfl (does_assign (u := (Iv (-1))) (ev rfl)) rfl ?_
    refine wpList_nil (hK23 _ _ ?_)
    refine wp_ret ?_
    dsimp only [Exit.then, Exit.inBlock]
    refine ret_val (v := (Iv (-1))) (res_T rfl (slot rfl)) X19 ?_
    have x24 : (-1) < 0 ∨ ((stTot A_a.steps : Int) ≤ left ∧ (-1) = left - stTot A_a.steps ∧ 0 ≤ (-1)) := by omega
    exact ⟨(-1), rfl, x24⟩
  have c22' := c22
  (try simp only [icmp, Bool.and_eq_true, Bool.or_eq_true, Bool.and_eq_false_iff, Bool.or_eq_false_iff, Bool.not_eq_true', Bool.not_eq_false', decide_eq_true_eq, decide_eq_false_iff_not, beq_iff_eq, bne_iff_ne, beq_eq_false_iff_ne, bne_eq_false_iff_eq] at c22')
  refine wp_skip (hK20 _ _ ?_)
  refine wp_seq_k fun K25 hK25 => ?_
  refine wp_region_lit ?_
  refine q_is (l' := [(.agg #[(Iv A_a.points), (Iv A_a.values), (.slice p3 A_a.steps.length q4)]), (Iv i17), (Pt b7 0), Ud, (Iv 0), (Pt b7 2), (.slice p3 A_a.steps.length q4), (Iv left), (Iv i17), (Iv i17), (Bo (icmp .lss i17 0)), (Iv i17)]) rfl rfl (does_move (u := (Iv i17)) (ev rfl)) rfl ?_
  refine q_is (l' := [(.agg #[(Iv A_a.points), (Iv A_a.values), (.slice p3 A_a.steps.length q4)]), (Iv i17), (Pt b7 0), Ud, (Iv i17), (Pt b7 2), (.slice p3 A_a.steps.length q4), (Iv left), (Iv i17), (Iv i17), (Bo (icmp .lss i17 0)), (Iv i17)]) rfl rfl (does_assign (u := (Iv i17)) (ev rfl)) rfl ?_
  refine wpList_nil (hK25 _ _ ?_)
  refine wp_ret ?_
  refine ret_val (v := (Iv i17)) (res_T rfl (slot rfl)) X19 ?_
  have x26 : i17 < 0 ∨ ((stTot A_a.steps : Int) ≤ left ∧ i17 = left - stTot A_a.steps ∧ 0 ≤ i17) := by omega
  exact ⟨i17, rfl, x26⟩

/- spec.l01Bits -/
theorem c_spec_l01Bits (x_ : Nat) (w : World) : Gives Try.prog 43 #[(Fl x_)] w (fun v w' => v = (Iv (bitsF (cf .f32 x_)))) := by
  refine enter [(Fl x_), Ud, Ud, Ud, Ud, Ud, Ud, Ud, Ud] Try.func43 rfl Try.ntmps43 rfl ?_
  refine wp_seq_k fun K1 hK1 => ?_
  refine wp_region_lit ?_
  refine q_is (l' := [(Fl x_), Ud, (Iv 0), Ud, Ud, Ud, Ud, Ud, Ud]) rfl rfl (does_assign (u := (Iv 0)) (ev rfl)) rfl ?_
  refine wpList_nil (hK1 _ _ ?_)
  refine wp_seq_k fun K2 hK2 => ?_
  refine wp_seq_k fun K3 hK3 => ?_
  refine wp_region_lit ?_
  refine q_is (l' := [(Fl x_), Ud, (Iv 0), (Fl x_), Ud, Ud, Ud, Ud, Ud]) rfl rfl (does_move (u := (Fl x_)) (ev rfl)) rfl ?_
  refine q_is (l' := [(Fl x_), Ud, (Iv 0), (Fl x_), (Fl x_), Ud, Ud, Ud, Ud]) rfl rfl (does_move (u := (Fl x_)) (ev rfl)) rfl ?_
  refine q_is (l' := [(Fl x_), Ud, (Iv 0), (Fl x_), (Fl x_), (Bo (fcmp .neq (ford .f32 (cf .f32 x_) (cf .f32 x_)))), Ud, Ud, Ud]) rfl rfl (does_fcmp (.inr (.inl rfl)) (ev rfl) (ev rfl)) rfl ?_
  refine wpList_nil (hK3 _ _ ?_)
  refine wp_cond_split (t := fcmp .neq (ford .f32 (cf .f32 x_) (cf .f32 x_))) (ev rfl) (fun c4 => ?_) (fun c4 => ?_)
  · have c4' := c4
    refine wp_seq_k fun K5 hK5 => ?_
    refine wp_region_lit ?_
    refine q_is (l' := [(Fl x_), Ud, (Iv 2143289344), (Fl x_), (Fl x_), (Bo (fcmp .neq (ford .f32 (cf .f32 x_) (cf .f32 x_)))), Ud, Ud, Ud]) rfl rfl (does_assign (u := (Iv 2143289344)) (ev rfl)) rfl ?_
    refine wpList_nil (hK5 _ _ ?_)
    refine wp_ret ?_
    dsimp only [Exit.then, Exit.inBlock]
    refine ret_val (v := (Iv 2143289344)) (res_T rfl (slot rfl)) (Ext.refl w) ?_
    have x6 : (bitsF (cf .f32 x_) : Int) = 2143289344 := by first | exact bits_nan (by assumption) | exact bits_num (by assumption)
    exact (by first | rfl | rw [x6])
  have c4' := c4
  refine wp_skip (hK2 _ _ ?_)
  refine wp_seq_k fun K7 hK7 => ?_
  refine wp_region_lit ?_
  refine q_is (l' := [(Fl x_), Ud, (Iv 0), (Fl x_), (Fl x_), (Bo (fcmp .neq (ford .f32 (cf .f32 x_) (cf .f32 x_)))), (Fl x_), Ud, Ud]) rfl rfl (does_move (u := (Fl x_)) (ev rfl)) rfl ?_
  refine q_is (l' := [(Fl x_), Ud, (Iv 0), (Fl x_), (Fl x_), (Bo (fcmp .neq (ford .f32 (cf .f32 x_) (cf .f32 x_)))), (Fl x_), (.int .u32 (x_ : Int)), Ud]) rfl rfl (does_bits (p := x_) (ev rfl) cfb49) rfl ?_
  refine q_is (l' := [(Fl x_), Ud, (Iv 0), (Fl x_), (Fl x_), (Bo (fcmp .neq (ford .f32 (cf .f32 x_) (cf .f32 x_)))), (Fl x_), (.int .u32 (x_ : Int)), (Iv (IntKind.i64.wrap (x_ : Int)))]) rfl rfl (does_conv_ii (r := IntKind.i64.wrap (x_ : Int)) (k := .u32) (k' := .i64) (n := (x_ : Int)) Try.underlying75 Try.underlying2 (ev rfl) rfl) rfl ?_
  refine q_is (l' := [(Fl x_), Ud, (Iv (IntKind.i64.wrap (x_ : Int))), (Fl x_), (Fl x_), (Bo (fcmp .neq (ford .f32 (cf .f32 x_) (cf .f32 x_)))), (Fl x_), (.int .u32 (x_ : Int)), (Iv (IntKind.i64.wrap (x_ : Int)))]) rfl rfl (does_assign (u := (Iv (IntKind.i64.wrap (x_ : Int)))) (ev rfl)) rfl ?_
  refine wpList_nil (hK7 _ _ ?_)
  refine wp_ret ?_
  refine ret_val (v := (Iv (IntKind.i64.wrap (x_ : Int)))) (res_T rfl (slot rfl)) (Ext.refl w) ?_
  have x8 : (bitsF (cf .f32 x_) : Int) = (IntKind.i64.wrap (x_ : Int)) := by first | exact bits_nan (by assumption) | exact bits_num (by assumption)
  exact (by first | rfl | rw [x8])

/- spec.l01Same -/
theorem c_spec_l01Same (x_ : Nat) (y_ : Nat) (w : World) : Gives Try.prog 29 #[(Fl x_), (Fl y_)] w (fun v w' => v = (Bo (sBits (cf .f32 x_) (cf .f32 y_)))) := by
  refine enter [(Fl x_), (Fl y_), Ud, Ud, Ud, Ud, Ud, Ud, Ud, Ud] Try.func29 rfl Try.ntmps29 rfl ?_
  refine wp_seq_k fun K1 hK1 => ?_
  refine wp_region_lit ?_
  refine q_is (l' := [(Fl x_), (Fl y_), Ud, Ud, (Bo false), Ud, Ud, Ud, Ud, Ud]) rfl rfl (does_assign (u := (Bo false)) (ev rfl)) rfl ?_
  refine wpList_nil (hK1 _ _ ?_)
  refine wp_seq_k fun K2 hK2 => ?_
  refine wp_region_lit ?_
  refine q_is (l' := [(Fl x_), (Fl y_), Ud, Ud, (Bo false), (Fl x_), Ud, Ud, Ud, Ud]) rfl rfl (does_move (u := (Fl x_)) (ev rfl)) rfl ?_
  refine seqd rfl rfl (does_call (args := #[(Fl x_)]) cal43 (evs rfl) (c_spec_l01Bits x_ _)) ?_; rintro _ w4 ⟨E3, rfl⟩
  have X5 := Ext.gr (Ext.refl w) E3
  show wpList _ _ _ _ (fr [(Fl x_), (Fl y_), Ud, Ud, (Bo false), (Fl x_), (Iv (bitsF (cf .f32 x_))), Ud, Ud, Ud]) _
  refine q_is (l' := [(Fl x_), (Fl y_), Ud, Ud, (Bo false), (Fl x_), (Iv (bitsF (cf .f32 x_))), (Fl y_), Ud, Ud]) rfl rfl (does_move (u := (Fl y_)) (ev rfl)) rfl ?_
  refine seqd rfl rfl (does_call (args := #[(Fl y_)]) cal43 (evs rfl) (c_spec_l01Bits y_ _)) ?_; rintro _ w7 ⟨E6, rfl⟩
  have X8 := Ext.gr X5 E6
  show wpList _ _ _ _ (fr [(Fl x_), (Fl y_), Ud, Ud, (Bo false), (Fl x_), (Iv (bitsF (cf .f32 x_))), (Fl y_), (Iv (bitsF (cf .f32 y_))), Ud]) _
  refine q_is (l' := [(Fl x_), (Fl y_), Ud, Ud, (Bo false), (Fl x_), (Iv (bitsF (cf .f32 x_))), (Fl y_), (Iv (bitsF (cf .f32 y_))), (Bo (icmp .eql (bitsF (cf .f32 x_)) (bitsF (cf .f32 y_))))]) rfl rfl (does_icmp (p := bitsF (cf .f32 x_)) (q := bitsF (cf .f32 y_)) (.inl rfl) (ev rfl) (ev rfl)) rfl ?_
  refine q_is (l' := [(Fl x_), (Fl y_), Ud, Ud, (Bo (icmp .eql (bitsF (cf .f32 x_)) (bitsF (cf .f32 y_)))), (Fl x_), (Iv (bitsF (cf .f32 x_))), (Fl y_), (Iv (bitsF (cf .f32 y_))), (Bo (icmp .eql (bitsF (cf .f32 x_)) (bitsF (cf .f32 y_))))]) rfl rfl (does_assign (u := (Bo (icmp .eql (bitsF (cf .f32 x_)) (bitsF (cf .f32 y_))))) (ev rfl)) rfl ?_
  refine wpList_nil (hK2 _ _ ?_)
  refine wp_ret ?_
  refine ret_val (v := (Bo (icmp .eql (bitsF (cf .f32 x_)) (bitsF (cf .f32 y_))))) (res_T rfl (slot rfl)) X8 ?_
  have x9 : (sBits (cf .f32 x_) (cf .f32 y_)) = (icmp .eql (bitsF (cf .f32 x_)) (bitsF (cf .f32 y_))) := by first | with_reducible rfl | (simp only [sBits]; done) | (simp [sBits]; done) | rfl
  exact (by first | rfl | rw [x9])

/- spec.l01SameAll -/
theorem c_spec_l01SameAll (a : Value) (L_a : List Nat) (b : Value) (L_b : List Nat) (w : World) (hv_a : Sl RF 1 w a L_a) (hv_b : Sl RF 1 w b L_b) : Gives Try.prog 16 #[a, b] w (fun v w' => v = (Bo (sameX sBits L_a L_b))) := by
  have hlen_a := Sl.len hv_a; obtain ⟨p_a, q_a, rfl⟩ := Sl.shape hv_a
  have hlen_b := Sl.len hv_b; obtain ⟨p_b, q_b, rfl⟩ := Sl.shape hv_b
  refine enter [(.slice p_a L_a.length q_a), (.slice p_b L_b.length q_b), Ud, Ud, Ud, Ud, Ud, Ud, Ud, Ud, Ud, Ud, Ud, Ud, Ud, Ud, Ud, Ud, Ud, Ud, Ud, Ud, Ud, Ud, Ud, Ud, Ud] Try.func16 rfl Try.ntmps16 rfl ?_
  refine wp_seq_k fun K1 hK1 => ?_
  refine wp_region_lit ?_
  refine q_is rfl rfl (does_assign (u := (Bo false)) (ev rfl)) (by dsimp only [List.set]; try rfl) ?_
  refine wpList_nil (hK1 _ _ ?_)
  refine wp_seq_k fun K2 hK2 => ?_
  refine wp_seq_k fun K3 hK3 => ?_
  refine wp_region_lit ?_
  refine q_is rfl rfl (does_move (u := (.slice p_a L_a.length q_a)) (ev rfl)) (by dsimp only [List.set]; try rfl) ?_
  refine q_is rfl rfl (does_len_slice Try.underlying32 (ev rfl)) (by dsimp only [List.set]; try rfl) ?_
  refine q_is rfl rfl (does_move (u := (.slice p_b L_b.length q_b)) (ev rfl)) (by dsimp only [List.set]; try rfl) ?_
  refine q_is rfl rfl (does_len_slice Try.underlying32 (ev rfl)) (by dsimp only [List.set]; try rfl) ?_
  refine q_is rfl rfl (does_icmp (p := (L_a.length : Int)) (q := (L_b.length : Int)) (.inr (.inl rfl)) (ev rfl) (ev rfl)) (by dsimp only [List.set]; try rfl) ?_
  refine wpList_nil (hK3 _ _ ?_)
  refine wp_cond_split (t := icmp .neq (L_a.length : Int) (L_b.length : Int)) (ev rfl) (fun c4 => ?_) (fun c4 => ?_)
  · have c4' := c4
    (try simp only [icmp, Bool.and_eq_true, Bool.or_eq_true, Bool.and_eq_false_iff, Bool.or_eq_false_iff, Bool.not_eq_true', Bool.not_eq_false', decide_eq_true_eq, decide_eq_false_iff_not, beq_iff_eq, bne_iff_ne, beq_eq_false_iff_ne, bne_eq_false_iff_eq] at c4')
    refine wp_seq_k fun K5 hK5 => ?_
    refine wp_region_lit ?_
    refine q_is rfl rfl (does_assign (u := (Bo false)) (ev rfl)) (by dsimp only [List.set]; try rfl) ?_
    refine wpList_nil (hK5 _ _ ?_)
    refine wp_ret ?_
    dsimp only [Exit.then, Exit.inBlock]
    refine ret_val (v := (Bo false)) (res_T rfl (slot rfl)) (Ext.refl w) ?_
    have x6 : (sameX sBits L_a L_b) = false := by first | exact (sameX_len (by omega)) | exact (sameX_not (by omega) (by assumption) (by assumption) (by simp_all)) | exact (sameX_all (by omega) (by omega) hs)
    exact (by first | rfl | rw [x6])
  have c4' := c4
  (try simp only [icmp, Bool.and_eq_true, Bool.or_eq_true, Bool.and_eq_false_iff, Bool.or_eq_false_iff, Bool.not_eq_true', Bool.not_eq_false', decide_eq_true_eq, decide_eq_false_iff_not, beq_iff_eq, bne_iff_ne, beq_eq_false_iff_ne, bne_eq_false_iff_eq] at c4')
  refine wp_skip (hK2 _ _ ?_)
  refine wp_seq_k fun K7 hK7 => ?_
  refine wp_seq_k fun K8 hK8 => ?_
  refine wp_region_lit ?_
  refine q_is rfl rfl (does_assign (u := (Iv 0)) (ev rfl)) (by dsimp only [List.set]; try rfl) ?_
  refine wpList_nil (hK8 _ _ ?_)
  refine wp_block ?_
  refine loop_ghost (σ := Nat) (fun k a w' => ∃ u9 : Nat → Value, a = fr [(.slice p_a L_a.length q_a), (.slice p_b L_b.length q_b), Ud, Ud, (u9 4), (Iv (k : Int)), (.slice p_a L_a.length q_a), (Iv (L_a.length : Int)), (.slice p_b L_b.length q_b), (Iv (L_b.length : Int)), (Bo (icmp .neq (L_a.length : Int) (L_b.length : Int))), (u9 11), (u9 12), (u9 13), (u9 14), (u9 15), (u9 16), (u9 17), (u9 18), (u9 19), (u9 20), (u9 21), (u9 22), (u9 23), (u9 24), (u9 25), (u9 26)] ∧ Ext w w' ∧ (k ≤ L_a.length ∧ SameXTo sBits L_a L_b k)) (fun k => L_a.length - k) 0 ?_ ?_
  · refine ⟨fun t => (([(.slice p_a L_a.length q_a), (.slice p_b L_b.length q_b), Ud, Ud, (Bo false), (Iv 0), (.slice p_a L_a.length q_a), (Iv (L_a.length : Int)), (.slice p_b L_b.length q_b), (Iv (L_b.length : Int)), (Bo (icmp .neq (L_a.length : Int) (L_b.length : Int))), Ud, Ud, Ud, Ud, Ud, Ud, Ud, Ud, Ud, Ud, Ud, Ud, Ud, Ud, Ud, Ud] : List Value)[t]?).getD undef, rfl, Ext.refl _, ?_⟩
    exact ⟨Nat.zero_le _, SameXTo.zero⟩
  · rintro k a w10 ⟨u9, rfl, E11, ⟨hk, hs⟩⟩
    have X13 := Ext.gr (Ext.refl w) E11
    refine wp_seq_k fun K14 hK14 => ?_
    refine wp_seq_k fun K15 hK15 => ?_
    refine wp_region_lit ?_
    refine q_is rfl rfl (does_move (u := (Iv (k : Int))) (ev rfl)) (by dsimp only [List.set]; try rfl) ?_
    refine q_is rfl rfl (does_move (u := (.slice p_a L_a.length q_a)) (ev rfl)) (by dsimp only [List.set]; try rfl) ?_
    refine q_is rfl rfl (does_len_slice Try.underlying32 (ev rfl)) (by dsimp only [List.set]; try rfl) ?_
    refine q_is rfl rfl (does_icmp (p := (k : Int)) (q := (L_a.length : Int)) (.inr (.inr (.inl rfl))) (ev rfl) (ev rfl)) (by dsimp only [List.set]; try rfl) ?_
    refine wpList_nil (hK15 _ _ ?_)
    refine wp_cond_split (t := icmp .lss (k : Int) (L_a.length : Int)) (ev rfl) (fun c16 => ?_) (fun c16 => ?_)
    · have c16' := c16
      (try simp only [icmp, Bool.and_eq_true, Bool.or_eq_true, Bool.and_eq_false_iff, Bool.or_eq_false_iff, Bool.not_eq_true', Bool.not_eq_false', decide_eq_true_eq, decide_eq_false_iff_not, beq_iff_eq, bne_iff_ne, beq_eq_false_iff_ne, bne_eq_false_iff_eq] at c16')
      refine wp_skip (hK14 _ _ ?_)
      refine wp_seq_k fun K17 hK17 => ?_
      refine wp_block ?_
      refine wp_seq_k fun K18 hK18 => ?_
      obtain ⟨el1, hel1⟩ : ∃ e, L_a[k]? = some e := ⟨_, List.getElem?_eq_getElem (by omega)⟩
      obtain ⟨el2, hel2⟩ : ∃ e, L_b[k]? = some e := ⟨_, List.getElem?_eq_getElem (by omega)⟩
      refine region_draw (
        [Fact.pure [] (fun v => v = (.slice p_a L_a.length q_a)),
    Fact.pure [] (fun v => v = (Iv (k : Int))),
    Fact.mem [17, 18] (fun v w' => PtrR RF w' v el1) (by intro v w1 w2 hx h; exact h.ext RF.mono hx),
    Fact.pure [19] (fun v => ∃ r_1 : Nat, v = (Fl r_1) ∧ cf .f32 r_1 = el1),
    Fact.pure [] (fun v => v = (.slice p_b L_b.length q_b)),
    Fact.pure [] (fun v => v = (Iv (k : Int))),
    Fact.mem [21, 22] (fun v w' => PtrR RF w' v el2) (by intro v w1 w2 hx h; exact h.ext RF.mono hx),
    Fact.pure [23] (fun v => ∃ r_1 : Nat, v = (Fl r_1) ∧ cf .f32 r_1 = el2),
    Fact.pure [20, 24] (fun v => v = (Bo (sBits el1 el2))),
    Fact.pure [25] (fun v => v = (Bo (!(sBits el1 el2))))]) mixed (by kernel_rfl) (by intro _ _ d _ _ h; cases d <;> exact h) ?_
      obtain ⟨w19, hw21⟩ : ∃ w', w' = World.drew w10 := ⟨_, rfl⟩; rw [← hw21]; have E20 : Ext w10 w19 := by rw [hw21]; exact Ext.draw _
      clear hw21
      have X22 := Ext.gr X13 E20
      refine RW_d _ rfl (fun v => by dsimp only [List.set]; try rfl) (fun u hu hF => ?_) (fun v23 => ?_)
      · clear hF
        refine doesG_un rfl ?_
        refine (does_move (u := (.slice p_a L_a.length q_a)) (ev rfl)).mono ?_; rintro _ _ ⟨rfl, rfl⟩
        exact ⟨rfl, Ext.refl _⟩
      refine RW_d _ rfl (fun v => by dsimp only [List.set]; try rfl) (fun u hu hF => ?_) (fun v24 => ?_)
      · clear hF
        refine doesG_un rfl ?_
        refine (does_move (u := (Iv (k : Int))) (ev rfl)).mono ?_; rintro _ _ ⟨rfl, rfl⟩
        exact ⟨rfl, Ext.refl _⟩
      refine RW_d _ rfl (fun v => by dsimp only [List.set]; try rfl) (fun u hu hF => ?_) (fun v25 => ?_)
      · have h17_ : v23 = (.slice p_a L_a.length q_a) := hF.1
        have h18_ : v24 = (Iv (k : Int)) := hF.2.1
        clear hF
        refine doesG_un rfl ?_
        obtain rfl := h17_
        obtain rfl := h18_
        refine (does_indexSl (R := RF) (i := (k : Int)) (xs := L_a) (e := el1) Try.underlying32 Try.sizeOf59 (ev rfl) (ev rfl) (Sl.ext (Sl.ext hv_a RF.mono (Ext.gr X13 E20)) RF.mono hu) (by omega) hel1).mono ?_; rintro v u' ⟨b, of, cs, hv, hc, hR, hu'⟩; subst hu'
        exact ⟨⟨b, of, cs, hv, hc, hR⟩, Ext.refl _⟩
      refine RW_d _ rfl (fun v => by dsimp only [List.set]; try rfl) (fun u hu hF => ?_) (fun v26 => ?_)
      · have h19_ : PtrR RF u v25 el1 := hF.1
        clear hF
        refine doesG_un rfl ?_
        obtain ⟨b19_, o19_, _, rfl, hc19_, ⟨r19_1, rfl, h19_2⟩⟩ := h19_
        refine (does_load (u := (Fl r19_1)) (ev rfl) Try.isAgg59 (Cells.at hc19_ 0 rfl)).mono ?_; rintro _ _ ⟨rfl, rfl⟩
        exact ⟨⟨r19_1, rfl, (by simp only [h19_2])⟩, Ext.refl _⟩
      refine RW_d _ rfl (fun v => by dsimp only [List.set]; try rfl) (fun u hu hF => ?_) (fun v27 => ?_)
      · clear hF
        refine doesG_un rfl ?_
        refine (does_move (u := (.slice p_b L_b.length q_b)) (ev rfl)).mono ?_; rintro _ _ ⟨rfl, rfl⟩
        exact ⟨rfl, Ext.refl _⟩
      refine RW_d _ rfl (fun v => by dsimp only [List.set]; try rfl) (fun u hu hF => ?_) (fun v28 => ?_)
      · clear hF
        refine doesG_un rfl ?_
        refine (does_move (u := (Iv (k : Int))) (ev rfl)).mono ?_; rintro _ _ ⟨rfl, rfl⟩
        exact ⟨rfl, Ext.refl _⟩
      refine RW_d _ rfl (fun v => by dsimp only [List.set]; try rfl) (fun u hu hF => ?_) (fun v29 => ?_)
      · have h21_ : v27 = (.slice p_b L_b.length q_b) := hF.1
        have h22_ : v28 = (Iv (k : Int)) := hF.2.1
        clear hF
        refine doesG_un rfl ?_
        obtain rfl := h21_
        obtain rfl := h22_
        refine (does_indexSl (R := RF) (i := (k : Int)) (xs := L_b) (e := el2) Try.underlying32 Try.sizeOf59 (ev rfl) (ev rfl) (Sl.ext (Sl.ext hv_b RF.mono (Ext.gr X13 E20)) RF.mono hu) (by omega) hel2).mono ?_; rintro v u' ⟨b, of, cs, hv, hc, hR, hu'⟩; subst hu'
        exact ⟨⟨b, of, cs, hv, hc, hR⟩, Ext.refl _⟩
      refine RW_d _ rfl (fun v => by dsimp only [List.set]; try rfl) (fun u hu hF => ?_) (fun v30 => ?_)
      · have h23_ : PtrR RF u v29 el2 := hF.1
        clear hF
        refine doesG_un rfl ?_
        obtain ⟨b23_, o23_, _, rfl, hc23_, ⟨r23_1, rfl, h23_2⟩⟩ := h23_
        refine (does_load (u := (Fl r23_1)) (ev rfl) Try.isAgg59 (Cells.at hc23_ 0 rfl)).mono ?_; rintro _ _ ⟨rfl, rfl⟩
        exact ⟨⟨r23_1, rfl, (by simp only [h23_2])⟩, Ext.refl _⟩
      refine RW_d _ rfl (fun v => by dsimp only [List.set]; try rfl) (fun u hu hF => ?_) (fun v31 => ?_)
      · have h20_ : ∃ r_1 : Nat, v26 = (Fl r_1) ∧ cf .f32 r_1 = el1 := hF.1
        have h24_ : ∃ r_1 : Nat, v30 = (Fl r_1) ∧ cf .f32 r_1 = el2 := hF.2.1
        clear hF
        refine doesG_un rfl ?_
        obtain ⟨r20_1, rfl, h20_2⟩ := h20_
        obtain ⟨r24_1, rfl, h24_2⟩ := h24_
        refine (does_call (args := #[(Fl r20_1), (Fl r24_1)]) cal29 (evs rfl) (c_spec_l01Same r20_1 r24_1 _)).mono ?_; rintro v u' ⟨hx, hv⟩
        exact ⟨hv.trans (by simp only [h20_2, h24_2]), hx⟩
      refine RW_d _ rfl (fun v => by dsimp only [List.set]; try rfl) (fun u hu hF => ?_) (fun v32 => ?_)
      · have h25_ : v31 = (Bo (sBits el1 el2)) := hF.1
        clear hF
        refine doesG_un rfl ?_
        obtain rfl := h25_
        refine (does_not (ev rfl)).mono ?_; rintro _ _ ⟨rfl, rfl⟩
        exact ⟨rfl, Ext.refl _⟩
      refine RW_fin ?_; intro w33 E34 hP35
      obtain ⟨⟨⟨⟨⟨⟨⟨⟨⟨⟨-, -⟩, -⟩, -⟩, -⟩, -⟩, -⟩, -⟩, -⟩, -⟩, q36⟩ := hP35
      have X37 := Ext.gr X22 E34
      have q36 : v32 = (Bo (!(sBits el1 el2))) := q36
      obtain rfl := q36
      show wpList _ _ _ _ (fr [(.slice p_a L_a.length q_a), (.slice p_b L_b.length q_b), Ud, Ud, (u9 4), (Iv (k : Int)), (.slice p_a L_a.length q_a), (Iv (L_a.length : Int)), (.slice p_b L_b.length q_b), (Iv (L_b.length : Int)), (Bo (icmp .neq (L_a.length : Int) (L_b.length : Int))), (Iv (k : Int)), (.slice p_a L_a.length q_a), (Iv (L_a.length : Int)), (Bo (icmp .lss (k : Int) (L_a.length : Int))), (u9 15), (u9 16), v23, v24, v25, v26, v27, v28, v29, v30, v31, (Bo (!(sBits el1 el2)))]) _
      refine wpList_nil (hK18 _ _ ?_)
      refine wp_cond_split (t := !(sBits el1 el2)) (ev rfl) (fun c38 => ?_) (fun c38 => ?_)
      · rw [Bool.not_eq_true'] at c38
        have c38' := c38
        refine wp_seq_k fun K39 hK39 => ?_
        refine wp_region_lit ?_
        refine q_is rfl rfl (does_assign (u := (Bo false)) (ev rfl)) (by dsimp only [List.set]; try rfl) ?_
        refine wpList_nil (hK39 _ _ ?_)
        refine wp_ret ?_
        dsimp only [Exit.then, Exit.inBlock]
        refine ret_val (v := (Bo false)) (res_T rfl (slot rfl)) X37 ?_
        try simp only [hel1, hel2] at c4 c16 c38
        have x40 : (sameX sBits L_a L_b) = false := by first | exact (sameX_len (by omega)) | exact (sameX_not (by omega) (by assumption) (by assumption) (by simp_all)) | exact (sameX_all (by omega) (by omega) hs)
        exact (by first | rfl | rw [x40])
      rw [Bool.not_eq_false'] at c38
      have c38' := c38
      refine wp_skip (hK17 _ _ ?_)
      refine wp_region_lit ?_
      refine q_is rfl rfl (does_move (u := (Iv (k : Int))) (ev rfl)) (by dsimp only [List.set]; try rfl) ?_
      refine q_is rfl rfl (does_iarith (p := (k : Int)) (q := 1) (r := (k : Int) + 1) (ev rfl) (ev rfl) (.inl ⟨rfl, (in_i64 (by omega) (by omega)).symm⟩)) (by dsimp only [List.set]; try rfl) ?_
      refine q_is rfl rfl (does_assign (u := (Iv ((k : Int) + 1))) (ev rfl)) (by dsimp only [List.set]; try rfl) ?_
      refine wpList_nil ?_
      refine ⟨k + 1, ⟨fun t => (([(.slice p_a L_a.length q_a), (.slice p_b L_b.length q_b), Ud, Ud, (u9 4), (Iv ((k : Int) + 1)), (.slice p_a L_a.length q_a), (Iv (L_a.length : Int)), (.slice p_b L_b.length q_b), (Iv (L_b.length : Int)), (Bo (icmp .neq (L_a.length : Int) (L_b.length : Int))), (Iv (k : Int)), (.slice p_a L_a.length q_a), (Iv (L_a.length : Int)), (Bo (icmp .lss (k : Int) (L_a.length : Int))), (Iv (k : Int)), (Iv ((k : Int) + 1)), v23, v24, v25, v26, v27, v28, v29, v30, v31, (Bo (!(sBits el1 el2)))] : List Value)[t]?).getD undef, ?_, (Ext.gr (Ext.gr E11 E20) E34), ?_⟩, ?_⟩
      · first | rfl | (simp only [Nat.cast_add, Nat.cast_one, Int.natCast_add, Int.natCast_one]; rfl)
      · exact ⟨by omega, SameXTo.step hs (by assumption) (by assumption) (by simp_all)⟩
      · omega
    have c16' := c16
    (try simp only [icmp, Bool.and_eq_true, Bool.or_eq_true, Bool.and_eq_false_iff, Bool.or_eq_false_iff, Bool.not_eq_true', Bool.not_eq_false', decide_eq_true_eq, decide_eq_false_iff_not, beq_iff_eq, bne_iff_ne, beq_eq_false_iff_ne, bne_eq_false_iff_eq] at c16')
    refine wp_exit ?_
    refine hK7 _ _ ?_
    refine wp_seq_k fun K41 hK41 => ?_
    refine wp_region_lit ?_
    refine q_is rfl rfl (does_assign (u := (Bo true)) (ev rfl)) (by dsimp only [List.set]; try rfl) ?_
    refine wpList_nil (hK41 _ _ ?_)
    refine wp_ret ?_
    refine ret_val (v := (Bo true)) (res_T rfl (slot rfl)) X13 ?_
    have x42 : (sameX sBits L_a L_b) = true := by first | exact (sameX_len (by omega)) | exact (sameX_not (by omega) (by assumption) (by assumption) (by simp_all)) | exact (sameX_all (by omega) (by omega) hs)
    exact (by first | rfl | rw [x42])

/- spec.SameProgram -/
theorem c_spec_SameProgram (x_ : List Value) (A_x_ : ProgT) (y_ : List Value) (A_y_ : ProgT) (w : World) (hv_x_ : RProgT w A_x_ x_) (hv_y_ : RProgT w A_y_ y_) : Gives Try.prog 6 #[(.agg x_.toArray), (.agg y_.toArray)] w (fun v w' => v = (Bo (sProg sBits A_x_ A_y_))) := by
  obtain ⟨y1, rfl, h2⟩ := hv_x_
  obtain ⟨y3, rfl, h4⟩ := hv_y_
  have hs7 := h2; have hs7l := Sl.len h2; obtain ⟨p5, q6, rfl⟩ := Sl.shape h2
  have hs10 := h4; have hs10l := Sl.len h4; obtain ⟨p8, q9, rfl⟩ := Sl.shape h4
  refine enter [(.agg #[(Iv A_x_.points), (Iv A_x_.values), (.slice p5 A_x_.steps.length q6)]), (.agg #[(Iv A_y_.points), (Iv A_y_.values), (.slice p8 A_y_.steps.length q9)]), Ud, Ud, Ud, Ud, Ud, Ud, Ud, Ud, Ud, Ud, Ud, Ud, Ud, Ud, Ud, Ud, Ud, Ud, Ud, Ud, Ud, Ud, Ud, Ud, Ud, Ud, Ud, Ud, Ud, Ud, Ud, Ud, Ud, Ud, Ud, Ud, Ud, Ud, Ud, Ud, Ud, Ud, Ud, Ud, Ud, Ud, Ud, Ud, Ud, Ud, Ud, Ud, Ud, Ud, Ud, Ud, Ud, Ud, Ud, Ud, Ud, Ud, Ud, Ud, Ud, Ud, Ud, Ud, Ud, Ud, Ud, Ud, Ud, Ud, Ud, Ud, Ud, Ud, Ud, Ud, Ud, Ud, Ud, Ud, Ud, Ud, Ud, Ud, Ud, Ud, Ud, Ud, Ud, Ud, Ud, Ud, Ud, Ud, Ud, Ud, Ud, Ud, Ud, Ud, Ud, Ud, Ud] Try.func6 rfl Try.ntmps6 rfl ?_
  refine wp_seq_k fun K11 hK11 => ?_
  refine wp_region_lit ?_
  refine seqd rfl rfl (does_box (u := (.agg #[(Iv A_x_.points), (Iv A_x_.values), (.slice p5 A_x_.steps.length q6)])) (ev rfl)) ?_; rintro _ w16 ⟨b12, rfl, hb13, hB14, E15⟩
  have g17 : w.heap.size ≤ b12 := Nat.le_trans (Below.size (Ext.refl w)) hb13
  change Blk _ _ [(Iv A_x_.points), (Iv A_x_.values), (.slice p5 A_x_.steps.length q6)] at hB14
  have X18 := Ext.gr (Ext.refl w) E15
  show wpList _ _ _ _ (fr [(.agg #[(Iv A_x_.points), (Iv A_x_.values), (.slice p5 A_x_.steps.length q6)]), (.agg #[(Iv A_y_.points), (Iv A_y_.values), (.slice p8 A_y_.steps.length q9)]), (Pt b12 0), Ud, Ud, Ud, Ud, Ud, Ud, Ud, Ud, Ud, Ud, Ud, Ud, Ud, Ud, Ud, Ud, Ud, Ud, Ud, Ud, Ud, Ud, Ud, Ud, Ud, Ud, Ud, Ud, Ud, Ud, Ud, Ud, Ud, Ud, Ud, Ud, Ud, Ud, Ud, Ud, Ud, Ud, Ud, Ud, Ud, Ud, Ud, Ud, Ud, Ud, Ud, Ud, Ud, Ud, Ud, Ud, Ud, Ud, Ud, Ud, Ud, Ud, Ud, Ud, Ud, Ud, Ud, Ud, Ud, Ud, Ud, Ud, Ud, Ud, Ud, Ud, Ud, Ud, Ud, Ud, Ud, Ud, Ud, Ud, Ud, Ud, Ud, Ud, Ud, Ud, Ud, Ud, Ud, Ud, Ud, Ud, Ud, Ud, Ud, Ud, Ud, Ud, Ud, Ud, Ud, Ud]) _
  refine seqd rfl rfl (does_box (u := (.agg #[(Iv A_y_.points), (Iv A_y_.values), (.slice p8 A_y_.steps.length q9)])) (ev rfl)) ?_; rintro _ w23 ⟨b19, rfl, hb20, hB21, E22⟩
  have n24 : b12 < b19 := Nat.lt_of_lt_of_le (Blk.lt hB14) hb20
  have g25 : w.heap.size ≤ b19 := Nat.le_trans (Below.size X18) hb20
  change Blk _ _ [(Iv A_y_.points), (Iv A_y_.values), (.slice p8 A_y_.steps.length q9)] at hB21
  have X26 := Ext.gr X18 E22
  show wpList _ _ _ _ (fr [(.agg #[(Iv A_x_.points), (Iv A_x_.values), (.slice p5 A_x_.steps.length q6)]), (.agg #[(Iv A_y_.points), (Iv A_y_.values), (.slice p8 A_y_.steps.length q9)]), (Pt b12 0), (Pt b19 0), Ud, Ud, Ud, Ud, Ud, Ud, Ud, Ud, Ud, Ud, Ud, Ud, Ud, Ud, Ud, Ud, Ud, Ud, Ud, Ud, Ud, Ud, Ud, Ud, Ud, Ud, Ud, Ud, Ud, Ud, Ud, Ud, Ud, Ud, Ud, Ud, Ud, Ud, Ud, Ud, Ud, Ud, Ud, Ud, Ud, Ud, Ud, Ud, Ud, Ud, Ud, Ud, Ud, Ud, Ud, Ud, Ud, Ud, Ud, Ud, Ud, Ud, Ud, Ud, Ud, Ud, Ud, Ud, Ud, Ud, Ud, Ud, Ud, Ud, Ud, Ud, Ud, Ud, Ud, Ud, Ud, Ud, Ud, Ud, Ud, Ud, Ud, Ud, Ud, Ud, Ud, Ud, Ud, Ud, Ud, Ud, Ud, Ud, Ud, Ud, Ud, Ud, Ud, Ud, Ud]) _
  refine q_is rfl rfl (does_assign (u := (Bo false)) (ev rfl)) (by dsimp only [List.set]; try rfl) ?_
  refine wpList_nil (hK11 _ _ ?_)
  refine wp_seq_k fun K27 hK27 => ?_
  refine wp_seq_k fun K28 hK28 => ?_
  obtain ⟨β1, hβ1⟩ : ∃ b : Bool, b = (icmp .neq A_x_.points A_y_.points) := ⟨_, rfl⟩
  obtain ⟨β2, hβ2⟩ : ∃ b : Bool, b = (icmp .neq A_x_.values A_y_.values) := ⟨_, rfl⟩
  obtain ⟨β3, hβ3⟩ : ∃ b : Bool, b = (icmp .neq (A_x_.steps.length : Int) (A_y_.steps.length : Int)) := ⟨_, rfl⟩
  refine region_text (
    [Fact.pure [] (fun v => v = (Pt b12 0)),
    Fact.pure [8] (fun v => v = (Iv A_x_.points)),
    Fact.pure [] (fun v => v = (Pt b19 0)),
    Fact.pure [10] (fun v => v = (Iv A_y_.points)),
    Fact.pure [9, 11] (fun v => v = (Bo β1)),
    Fact.pure [12] (fun v => v = (Bo β1)),
    Fact.pure [13] (fun v => β1 = false → v = (Pt b12 1)),
    Fact.pure [14, 13] (fun v => β1 = false → v = (Iv A_x_.values)),
    Fact.pure [13] (fun v => β1 = false → v = (Pt b19 1)),
    Fact.pure [16, 13] (fun v => β1 = false → v = (Iv A_y_.values)),
    Fact.pure [15, 17, 13] (fun v => β1 = false → v = (Bo β2)),
    Fact.pure [13, 18] (fun v => v = (Bo (β1 || β2))),
    Fact.pure [19] (fun v => v = (Bo (β1 || β2))),
    Fact.pure [20] (fun v => (β1 || β2) = false → v = (Pt b12 2)),
    Fact.pure [21, 20] (fun v => (β1 || β2) = false → v = (.slice p5 A_x_.steps.length q6)),
    Fact.pure [22, 20] (fun v => (β1 || β2) = false → v = (Iv (A_x_.steps.length : Int))),
    Fact.pure [20] (fun v => (β1 || β2) = false → v = (Pt b19 2)),
    Fact.pure [24, 20] (fun v => (β1 || β2) = false → v = (.slice p8 A_y_.steps.length q9)),
    Fact.pure [25, 20] (fun v => (β1 || β2) = false → v = (Iv (A_y_.steps.length : Int))),
    Fact.pure [23, 26, 20] (fun v => (β1 || β2) = false → v = (Bo β3)),
    Fact.pure [20, 27] (fun v => v = (Bo ((β1 || β2) || β3)))]) (by simp [Fact.pure, Fact.mem]) ?_
  refine RW_d _ rfl (fun v => by dsimp only [List.set]; try rfl) (fun u hu hF => ?_) (fun v29 => ?_)
  · clear hF
    refine doesG_un rfl ?_
    refine (does_fieldAddr (ev rfl) fa29_0).mono ?_; rintro _ _ ⟨rfl, rfl⟩
    exact ⟨rfl, Ext.refl _⟩
  refine RW_d _ rfl (fun v => by dsimp only [List.set]; try rfl) (fun u hu hF => ?_) (fun v30 => ?_)
  · have h8_ : v29 = (Pt b12 0) := hF.1
    clear hF
    refine doesG_un rfl ?_
    obtain rfl := h8_
    refine (does_load (u := (Iv A_x_.points)) (ev rfl) Try.isAgg2 (Cells.at (Blk.cells ((hB14.ext E22).ext hu)) 0 rfl)).mono ?_; rintro _ _ ⟨rfl, rfl⟩
    exact ⟨rfl, Ext.refl _⟩
  refine RW_d _ rfl (fun v => by dsimp only [List.set]; try rfl) (fun u hu hF => ?_) (fun v31 => ?_)
  · clear hF
    refine doesG_un rfl ?_
    refine (does_fieldAddr (ev rfl) fa29_0).mono ?_; rintro _ _ ⟨rfl, rfl⟩
    exact ⟨rfl, Ext.refl _⟩
  refine RW_d _ rfl (fun v => by dsimp only [List.set]; try rfl) (fun u hu hF => ?_) (fun v32 => ?_)
  · have h10_ : v31 = (Pt b19 0) := hF.1
    clear hF
    refine doesG_un rfl ?_
    obtain rfl := h10_
    refine (does_load (u := (Iv A_y_.points)) (ev rfl) Try.isAgg2 (Cells.at (Blk.cells (hB21.ext hu)) 0 rfl)).mono ?_; rintro _ _ ⟨rfl, rfl⟩
    exact ⟨rfl, Ext.refl _⟩
  refine RW_d _ rfl (fun v => by dsimp only [List.set]; try rfl) (fun u hu hF => ?_) (fun v33 => ?_)
  · have h9_ : v30 = (Iv A_x_.points) := hF.1
    have h11_ : v32 = (Iv A_y_.points) := hF.2.1
    clear hF
    refine doesG_un rfl ?_
    obtain rfl := h9_
    obtain rfl := h11_
    refine (does_icmp (p := A_x_.points) (q := A_y_.points) (.inr (.inl rfl)) (ev rfl) (ev rfl)).mono ?_; rintro _ _ ⟨rfl, rfl⟩
    exact ⟨(by first | rfl | (show _ = _; simp only [hβ1])), Ext.refl _⟩
  refine RW_d _ rfl (fun v => by dsimp only [List.set]; try rfl) (fun u hu hF => ?_) (fun v34 => ?_)
  · have h12_ : v33 = (Bo β1) := hF.1
    clear hF
    refine doesG_un rfl ?_
    obtain rfl := h12_
    refine (does_move (u := (Bo β1)) (ev rfl)).mono ?_; rintro _ _ ⟨rfl, rfl⟩
    exact ⟨rfl, Ext.refl _⟩
  refine RW_d _ rfl (fun v => by dsimp only [List.set]; try rfl) (fun u hu hF => ?_) (fun v35 => ?_)
  · have h13_ : v34 = (Bo β1) := hF.1
    clear hF
    obtain rfl := h13_
    refine doesG_g (b := β1) rfl (yld rfl rfl) (fun hg1 => ?_) (fun hc => ⟨fun hg1 => absurd hg1 hc, Ext.refl _⟩)
    refine (does_fieldAddr (ev rfl) fa29_1).mono ?_; rintro _ _ ⟨rfl, rfl⟩
    exact ⟨fun _ => rfl, Ext.refl _⟩
  refine RW_d _ rfl (fun v => by dsimp only [List.set]; try rfl) (fun u hu hF => ?_) (fun v36 => ?_)
  · have h14_ : β1 = false → v35 = (Pt b12 1) := hF.1
    have h13_ : v34 = (Bo β1) := hF.2.1
    clear hF
    obtain rfl := h13_
    refine doesG_g (b := β1) rfl (yld rfl rfl) (fun hg1 => ?_) (fun hc => ⟨fun hg1 => absurd hg1 hc, Ext.refl _⟩)
    obtain rfl := h14_ hg1
    refine (does_load (u := (Iv A_x_.values)) (ev rfl) Try.isAgg2 (Cells.at (Blk.cells ((hB14.ext E22).ext hu)) 1 rfl)).mono ?_; rintro _ _ ⟨rfl, rfl⟩
    exact ⟨fun _ => rfl, Ext.refl _⟩
  refine RW_d _ rfl (fun v => by dsimp only [List.set]; try rfl) (fun u hu hF => ?_) (fun v37 => ?_)
  · have h13_ : v34 = (Bo β1) := hF.1
    clear hF
    obtain rfl := h13_
    refine doesG_g (b := β1) rfl (yld rfl rfl) (fun hg1 => ?_) (fun hc => ⟨fun hg1 => absurd hg1 hc, Ext.refl _⟩)
    refine (does_fieldAddr (ev rfl) fa29_1).mono ?_; rintro _ _ ⟨rfl, rfl⟩
    exact ⟨fun _ => rfl, Ext.refl _⟩
  refine RW_d _ rfl (fun v => by dsimp only [List.set]; try rfl) (fun u hu hF => ?_) (fun v38 => ?_)
  · have h16_ : β1 = false → v37 = (Pt b19 1) := hF.1
    have h13_ : v34 = (Bo β1) := hF.2.1
    clear hF
    obtain rfl := h13_
    refine doesG_g (b := β1) rfl (yld rfl rfl) (fun hg1 => ?_) (fun hc => ⟨fun hg1 => absurd hg1 hc, Ext.refl _⟩)
    obtain rfl := h16_ hg1
    refine (does_load (u := (Iv A_y_.values)) (ev rfl) Try.isAgg2 (Cells.at (Blk.cells (hB21.ext hu)) 1 rfl)).mono ?_; rintro _ _ ⟨rfl, rfl⟩
    exact ⟨fun _ => rfl, Ext.refl _⟩
  refine RW_d _ rfl (fun v => by dsimp only [List.set]; try rfl) (fun u hu hF => ?_) (fun v39 => ?_)
  · have h15_ : β1 = false → v36 = (Iv A_x_.values) := hF.1
    have h17_ : β1 = false → v38 = (Iv A_y_.values) := hF.2.1
    have h13_ : v34 = (Bo β1) := hF.2.2.1
    clear hF
    obtain rfl := h13_
    refine doesG_g (b := β1) rfl (yld rfl rfl) (fun hg1 => ?_) (fun hc => ⟨fun hg1 => absurd hg1 hc, Ext.refl _⟩)
    obtain rfl := h15_ hg1
    obtain rfl := h17_ hg1
    refine (does_icmp (p := A_x_.values) (q := A_y_.values) (.inr (.inl rfl)) (ev rfl) (ev rfl)).mono ?_; rintro _ _ ⟨rfl, rfl⟩
    exact ⟨fun _ => (by first | rfl | (show _ = _; simp only [hβ2])), Ext.refl _⟩
  refine RW_d _ rfl (fun v => by dsimp only [List.set]; try rfl) (fun u hu hF => ?_) (fun v40 => ?_)
  · have h13_ : v34 = (Bo β1) := hF.1
    have h18_ : β1 = false → v39 = (Bo β2) := hF.2.1
    clear hF
    refine doesG_un rfl ?_
    skip
    obtain rfl := h13_
    refine (does_pick (b := β1) (ev rfl) (ev rfl) (ev rfl)).mono ?_; rintro _ _ ⟨rfl, rfl⟩; refine ⟨?_, Ext.refl _⟩; skip
    cases hbb : β1 <;> simp [hbb] at h18_ ⊢
    all_goals (first | rfl | (subst h18_; rfl) | simp_all)
  refine RW_d _ rfl (fun v => by dsimp only [List.set]; try rfl) (fun u hu hF => ?_) (fun v41 => ?_)
  · have h19_ : v40 = (Bo (β1 || β2)) := hF.1
    clear hF
    refine doesG_un rfl ?_
    obtain rfl := h19_
    refine (does_move (u := (Bo (β1 || β2))) (ev rfl)).mono ?_; rintro _ _ ⟨rfl, rfl⟩
    exact ⟨rfl, Ext.refl _⟩
  refine RW_d _ rfl (fun v => by dsimp only [List.set]; try rfl) (fun u hu hF => ?_) (fun v42 => ?_)
  · have h20_ : v41 = (Bo (β1 || β2)) := hF.1
    clear hF
    obtain rfl := h20_
    refine doesG_g (b := (β1 || β2)) rfl (yld rfl rfl) (fun hg1 => ?_) (fun hc => ⟨fun hg1 => absurd hg1 hc, Ext.refl _⟩)
    refine (does_fieldAddr (ev rfl) fa29_2).mono ?_; rintro _ _ ⟨rfl, rfl⟩
    exact ⟨fun _ => rfl, Ext.refl _⟩
  refine RW_d _ rfl (fun v => by dsimp only [List.set]; try rfl) (fun u hu hF => ?_) (fun v43 => ?_)
  · have h21_ : (β1 || β2) = false → v42 = (Pt b12 2) := hF.1
    have h20_ : v41 = (Bo (β1 || β2)) := hF.2.1
    clear hF
    obtain rfl := h20_
    refine doesG_g (b := (β1 || β2)) rfl (yld rfl rfl) (fun hg1 => ?_) (fun hc => ⟨fun hg1 => absurd hg1 hc, Ext.refl _⟩)
    obtain rfl := h21_ hg1
    refine (does_load (u := (.slice p5 A_x_.steps.length q6)) (ev rfl) Try.isAgg27 (Cells.at (Blk.cells ((hB14.ext E22).ext hu)) 2 rfl)).mono ?_; rintro _ _ ⟨rfl, rfl⟩
    exact ⟨fun _ => rfl, Ext.refl _⟩
  refine RW_d _ rfl (fun v => by dsimp only [List.set]; try rfl) (fun u hu hF => ?_) (fun v44 => ?_)
  · have h22_ : (β1 || β2) = false → v43 = (.slice p5 A_x_.steps.length q6) := hF.1
    have h20_ : v41 = (Bo (β1 || β2)) := hF.2.1
    clear hF
    obtain rfl := h20_
    refine doesG_g (b := (β1 || β2)) rfl (yld rfl rfl) (fun hg1 => ?_) (fun hc => ⟨fun hg1 => absurd hg1 hc, Ext.refl _⟩)
    obtain rfl := h22_ hg1
    refine (does_len_slice Try.underlying27 (ev rfl)).mono ?_; rintro _ _ ⟨rfl, rfl⟩
    exact ⟨fun _ => rfl, Ext.refl _⟩
  refine RW_d _ rfl (fun v => by dsimp only [List.set]; try rfl) (fun u hu hF => ?_) (fun v45 => ?_)
  · have h20_ : v41 = (Bo (β1 || β2)) := hF.1
    clear hF
    obtain rfl := h20_
    refine doesG_g (b := (β1 || β2)) rfl (yld rfl rfl) (fun hg1 => ?_) (fun hc => ⟨fun hg1 => absurd hg1 hc, Ext.refl _⟩)
    refine (does_fieldAddr (ev rfl) fa29_2).mono ?_; rintro _ _ ⟨rfl, rfl⟩
    exact ⟨fun _ => rfl, Ext.refl _⟩
  refine RW_d _ rfl (fun v => by dsimp only [List.set]; try rfl) (fun u hu hF => ?_) (fun v46 => ?_)
  · have h24_ : (β1 || β2) = false → v45 = (Pt b19 2) := hF.1
    have h20_ : v41 = (Bo (β1 || β2)) := hF.2.1
    clear hF
    obtain rfl := h20_
    refine doesG_g (b := (β1 || β2)) rfl (yld rfl rfl) (fun hg1 => ?_) (fun hc => ⟨fun hg1 => absurd hg1 hc, Ext.refl _⟩)
    obtain rfl := h24_ hg1
    refine (does_load (u := (.slice p8 A_y_.steps.length q9)) (ev rfl) Try.isAgg27 (Cells.at (Blk.cells (hB21.ext hu)) 2 rfl)).mono ?_; rintro _ _ ⟨rfl, rfl⟩
    exact ⟨fun _ => rfl, Ext.refl _⟩
  refine RW_d _ rfl (fun v => by dsimp only [List.set]; try rfl) (fun u hu hF => ?_) (fun v47 => ?_)
  · have h25_ : (β1 || β2) = false → v46 = (.slice p8 A_y_.steps.length q9) := hF.1
    have h20_ : v41 = (Bo (β1 || β2)) := hF.2.1
    clear hF
    obtain rfl := h20_
    refine doesG_g (b := (β1 || β2)) rfl (yld rfl rfl) (fun hg1 => ?_) (fun hc => ⟨fun hg1 => absurd hg1 hc, Ext.refl _⟩)
    obtain rfl := h25_ hg1
    refine (does_len_slice Try.underlying27 (ev rfl)).mono ?_; rintro _ _ ⟨rfl, rfl⟩
    exact ⟨fun _ => rfl, Ext.refl _⟩
  refine RW_d _ rfl (fun v => by dsimp only [List.set]; try rfl) (fun u hu hF => ?_) (fun v48 => ?_)
  · have h23_ : (β1 || β2) = false → v44 = (Iv (A_x_.steps.length : Int)) := hF.1
    have h26_ : (β1 || β2) = false → v47 = (Iv (A_y_.steps.length : Int)) := hF.2.1
    have h20_ : v41 = (Bo (β1 || β2)) := hF.2.2.1
    clear hF
    obtain rfl := h20_
    refine doesG_g (b := (β1 || β2)) rfl (yld rfl rfl) (fun hg1 => ?_) (fun hc => ⟨fun hg1 => absurd hg1 hc, Ext.refl _⟩)
    obtain rfl := h23_ hg1
    obtain rfl := h26_ hg1
    refine (does_icmp (p := (A_x_.steps.length : Int)) (q := (A_y_.steps.length : Int)) (.inr (.inl rfl)) (ev rfl) (ev rfl)).mono ?_; rintro _ _ ⟨rfl, rfl⟩
    exact ⟨fun _ => (by first | rfl | (show _ = _; simp only [hβ3])), Ext.refl _⟩
  refine RW_d _ rfl (fun v => by dsimp only [List.set]; try rfl) (fun u hu hF => ?_) (fun v49 => ?_)
  · have h20_ : v41 = (Bo (β1 || β2)) := hF.1
    have h27_ : (β1 || β2) = false → v48 = (Bo β3) := hF.2.1
    clear hF
    refine doesG_un rfl ?_
    skip
    obtain rfl := h20_
    refine (does_pick (b := (β1 || β2)) (ev rfl) (ev rfl) (ev rfl)).mono ?_; rintro _ _ ⟨rfl, rfl⟩; refine ⟨?_, Ext.refl _⟩; skip
    cases hbb : (β1 || β2) <;> simp [hbb] at h27_ ⊢
    all_goals (first | rfl | (subst h27_; rfl) | simp_all)
  refine RW_fin ?_; intro w50 E51 hP52
  obtain ⟨⟨⟨⟨⟨⟨⟨⟨⟨⟨⟨⟨⟨⟨⟨⟨⟨⟨⟨⟨⟨-, -⟩, -⟩, -⟩, -⟩, -⟩, -⟩, -⟩, -⟩, -⟩, -⟩, -⟩, -⟩, -⟩, -⟩, -⟩, -⟩, -⟩, -⟩, -⟩, -⟩, q53⟩ := hP52
  have X54 := Ext.gr X26 E51
  have q53 : v49 = (Bo ((β1 || β2) || β3)) := q53
  obtain rfl := q53
  show wpList _ _ _ _ (fr [(.agg #[(Iv A_x_.points), (Iv A_x_.values), (.slice p5 A_x_.steps.length q6)]), (.agg #[(Iv A_y_.points), (Iv A_y_.values), (.slice p8 A_y_.steps.length q9)]), (Pt b12 0), (Pt b19 0), (Bo false), Ud, Ud, Ud, v29, v30, v31, v32, v33, v34, v35, v36, v37, v38, v39, v40, v41, v42, v43, v44, v45, v46, v47, v48, (Bo ((β1 || β2) || β3)), Ud, Ud, Ud, Ud, Ud, Ud, Ud, Ud, Ud, Ud, Ud, Ud, Ud, Ud, Ud, Ud, Ud, Ud, Ud, Ud, Ud, Ud, Ud, Ud, Ud, Ud, Ud, Ud, Ud, Ud, Ud, Ud, Ud, Ud, Ud, Ud, Ud, Ud, Ud, Ud, Ud, Ud, Ud, Ud, Ud, Ud, Ud, Ud, Ud, Ud, Ud, Ud, Ud, Ud, Ud, Ud, Ud, Ud, Ud, Ud, Ud, Ud, Ud, Ud, Ud, Ud, Ud, Ud, Ud, Ud, Ud, Ud, Ud, Ud, Ud, Ud, Ud, Ud, Ud, Ud]) _
  refine wpList_nil (hK28 _ _ ?_)
  refine wp_cond_split (t := (β1 || β2) || β3) (ev rfl) (fun c55 => ?_) (fun c55 => ?_)
  · have c55' := c55
    (try simp only [hβ1, hβ2, hβ3] at c55')
    (try simp only [icmp, Bool.and_eq_true, Bool.or_eq_true, Bool.and_eq_false_iff, Bool.or_eq_false_iff, Bool.not_eq_true', Bool.not_eq_false', decide_eq_true_eq, decide_eq_false_iff_not, beq_iff_eq, bne_iff_ne, beq_eq_false_iff_ne, bne_eq_false_iff_eq] at c55')
    refine wp_seq_k fun K56 hK56 => ?_
    refine wp_region_lit ?_
    refine q_is rfl rfl (does_assign (u := (Bo false)) (ev rfl)) (by dsimp only [List.set]; try rfl) ?_
    refine wpList_nil (hK56 _ _ ?_)
    refine wp_ret ?_
    dsimp only [Exit.then, Exit.inBlock]
    refine ret_val (v := (Bo false)) (res_T rfl (slot rfl)) X54 ?_
    try simp only [hβ1, hβ2, hβ3] at c55
    have x57 : (sProg sBits A_x_ A_y_) = false := by first | exact sProg_f (by assumption) | exact sProg_bad (by assumption) (by assumption) (by assumption) (sStep_f (by assumption)) | exact sProg_ok (by assumption) (by assumption) hs
    exact (by first | rfl | rw [x57])
  have c55' := c55
  (try simp only [hβ1, hβ2, hβ3] at c55')
  (try simp only [icmp, Bool.and_eq_true, Bool.or_eq_true, Bool.and_eq_false_iff, Bool.or_eq_false_iff, Bool.not_eq_true', Bool.not_eq_false', decide_eq_true_eq, decide_eq_false_iff_not, beq_iff_eq, bne_iff_ne, beq_eq_false_iff_ne, bne_eq_false_iff_eq] at c55')
  refine wp_skip (hK27 _ _ ?_)
  refine wp_seq_k fun K58 hK58 => ?_
  refine wp_seq_k fun K59 hK59 => ?_
  refine wp_region_lit ?_
  refine q_is rfl rfl (does_fieldAddr (ev rfl) fa29_2) (by dsimp only [List.set]; try rfl) ?_
  refine q_is rfl rfl (does_load (u := (.slice p5 A_x_.steps.length q6)) (ev rfl) Try.isAgg27 (Cells.at (Blk.cells ((hB14.ext E22).ext E51)) 2 rfl)) (by dsimp only [List.set]; try rfl) ?_
  refine q_is rfl rfl (does_len_slice Try.underlying27 (ev rfl)) (by dsimp only [List.set]; try rfl) ?_
  refine q_is rfl rfl (does_move (u := (Iv 0)) (ev rfl)) (by dsimp only [List.set]; try rfl) ?_
  refine wpList_nil (hK59 _ _ ?_)
  refine wp_block ?_
  refine loop_ghost (σ := Nat) (fun k a w' => ∃ u60 : Nat → Value, a = fr [(.agg #[(Iv A_x_.points), (Iv A_x_.values), (.slice p5 A_x_.steps.length q6)]), (.agg #[(Iv A_y_.points), (Iv A_y_.values), (.slice p8 A_y_.steps.length q9)]), (Pt b12 0), (Pt b19 0), (u60 4), (u60 5), (u60 6), (u60 7), v29, v30, v31, v32, v33, v34, v35, v36, v37, v38, v39, v40, v41, v42, v43, v44, v45, v46, v47, v48, (Bo ((β1 || β2) || β3)), (Pt b12 2), (.slice p5 A_x_.steps.length q6), (Iv (A_x_.steps.length : Int)), (Iv (k : Int)), (u60 33), (u60 34), (u60 35), (u60 36), (u60 37), (u60 38), (u60 39), (u60 40), (u60 41), (u60 42), (u60 43), (u60 44), (u60 45), (u60 46), (u60 47), (u60 48), (u60 49), (u60 50), (u60 51), (u60 52), (u60 53), (u60 54), (u60 55), (u60 56), (u60 57), (u60 58), (u60 59), (u60 60), (u60 61), (u60 62), (u60 63), (u60 64), (u60 65), (u60 66), (u60 67), (u60 68), (u60 69), (u60 70), (u60 71), (u60 72), (u60 73), (u60 74), (u60 75), (u60 76), (u60 77), (u60 78), (u60 79), (u60 80), (u60 81), (u60 82), (u60 83), (u60 84), (u60 85), (u60 86), (u60 87), (u60 88), (u60 89), (u60 90), (u60 91), (u60 92), (u60 93), (u60 94), (u60 95), (u60 96), (u60 97), (u60 98), (u60 99), (u60 100), (u60 101), (u60 102), (u60 103), (u60 104), (u60 105), (u60 106), (u60 107), (u60 108)] ∧ Ext w50 w' ∧ (k ≤ A_x_.steps.length ∧ SameXTo (sStep sBits) A_x_.steps A_y_.steps k)) (fun k => A_x_.steps.length - k) 0 ?_ ?_
  · refine ⟨fun t => (([(.agg #[(Iv A_x_.points), (Iv A_x_.values), (.slice p5 A_x_.steps.length q6)]), (.agg #[(Iv A_y_.points), (Iv A_y_.values), (.slice p8 A_y_.steps.length q9)]), (Pt b12 0), (Pt b19 0), (Bo false), Ud, Ud, Ud, v29, v30, v31, v32, v33, v34, v35, v36, v37, v38, v39, v40, v41, v42, v43, v44, v45, v46, v47, v48, (Bo ((β1 || β2) || β3)), (Pt b12 2), (.slice p5 A_x_.steps.length q6), (Iv (A_x_.steps.length : Int)), (Iv 0), Ud, Ud, Ud, Ud, Ud, Ud, Ud, Ud, Ud, Ud, Ud, Ud, Ud, Ud, Ud, Ud, Ud, Ud, Ud, Ud, Ud, Ud, Ud, Ud, Ud, Ud, Ud, Ud, Ud, Ud, Ud, Ud, Ud, Ud, Ud, Ud, Ud, Ud, Ud, Ud, Ud, Ud, Ud, Ud, Ud, Ud, Ud, Ud, Ud, Ud, Ud, Ud, Ud, Ud, Ud, Ud, Ud, Ud, Ud, Ud, Ud, Ud, Ud, Ud, Ud, Ud, Ud, Ud, Ud, Ud, Ud, Ud, Ud, Ud, Ud, Ud] : List Value)[t]?).getD undef, rfl, Ext.refl _, ?_⟩
    exact ⟨Nat.zero_le _, SameXTo.zero⟩
  · rintro k a w61 ⟨u60, rfl, E62, ⟨hk, hs⟩⟩
    have X64 := Ext.gr X54 E62
    refine wp_seq_k fun K65 hK65 => ?_
    refine wp_region_lit ?_
    refine q_is rfl rfl (does_icmp (p := (k : Int)) (q := (A_x_.steps.length : Int)) (.inr (.inr (.inl rfl))) (ev rfl) (ev rfl)) (by dsimp only [List.set]; try rfl) ?_
    refine wpList_nil (hK65 _ _ ?_)
    refine wp_seq_k fun K66 hK66 => ?_
    refine wp_cond_split (t := icmp .lss (k : Int) (A_x_.steps.length : Int)) (ev rfl) (fun c67 => ?_) (fun c67 => ?_)
    · have c67' := c67
      (try simp only [hβ1, hβ2, hβ3] at c67')
      (try simp only [icmp, Bool.and_eq_true, Bool.or_eq_true, Bool.and_eq_false_iff, Bool.or_eq_false_iff, Bool.not_eq_true', Bool.not_eq_false', decide_eq_true_eq, decide_eq_false_iff_not, beq_iff_eq, bne_iff_ne, beq_eq_false_iff_ne, bne_eq_false_iff_eq] at c67')
      refine wp_skip (hK66 _ _ ?_)
      refine wp_seq_k fun K68 hK68 => ?_
      refine wp_block ?_
      refine wp_seq_k fun K69 hK69 => ?_
      refine wp_region_lit ?_
      refine q_is rfl rfl (does_move (u := (Iv (k : Int))) (ev rfl)) (by dsimp only [List.set]; try rfl) ?_
      refine q_is rfl rfl (does_assign (u := (Iv (k : Int))) (ev rfl)) (by dsimp only [List.set]; try rfl) ?_
      refine wpList_nil (hK69 _ _ ?_)
      refine wp_seq_k fun K70 hK70 => ?_
      refine wp_region_lit ?_
      refine q_is rfl rfl (does_fieldAddr (ev rfl) fa29_2) (by dsimp only [List.set]; try rfl) ?_
      refine q_is rfl rfl (does_load (u := (.slice p5 A_x_.steps.length q6)) (ev rfl) Try.isAgg27 (Cells.at (Blk.cells (((hB14.ext E22).ext E51).ext E62)) 2 rfl)) (by dsimp only [List.set]; try rfl) ?_
      refine q_is rfl rfl (does_move (u := (Iv (k : Int))) (ev rfl)) (by dsimp only [List.set]; try rfl) ?_
      obtain ⟨el1, hel1⟩ : ∃ e, A_x_.steps[k]? = some e := ⟨_, List.getElem?_eq_getElem (by omega)⟩
      refine seqd rfl rfl (does_indexSl (R := RStepT) (i := (k : Int)) (xs := A_x_.steps) (e := el1) Try.underlying27 Try.sizeOf43 (ev rfl) (ev rfl) (Sl.ext hs7 RStepT.mono X64) (by omega) hel1) ?_; rintro _ w61 ⟨b71, o72, _, rfl, hc74, ⟨y75, rfl, h76⟩, rfl⟩
      have hs79 := h76; have hs79l := Sl.len h76; obtain ⟨p77, q78, rfl⟩ := Sl.shape h76
      show wpList _ _ _ _ (fr [(.agg #[(Iv A_x_.points), (Iv A_x_.values), (.slice p5 A_x_.steps.length q6)]), (.agg #[(Iv A_y_.points), (Iv A_y_.values), (.slice p8 A_y_.steps.length q9)]), (Pt b12 0), (Pt b19 0), (u60 4), (Iv (k : Int)), (u60 6), (u60 7), v29, v30, v31, v32, v33, v34, v35, v36, v37, v38, v39, v40, v41, v42, v43, v44, v45, v46, v47, v48, (Bo ((β1 || β2) || β3)), (Pt b12 2), (.slice p5 A_x_.steps.length q6), (Iv (A_x_.steps.length : Int)), (Iv (k : Int)), (Bo (icmp .lss (k : Int) (A_x_.steps.length : Int))), (Iv (k : Int)), (Pt b12 2), (.slice p5 A_x_.steps.length q6), (Iv (k : Int)), (Pt b71 o72), (u60 39), (u60 40), (u60 41), (u60 42), (u60 43), (u60 44), (u60 45), (u60 46), (u60 47), (u60 48), (u60 49), (u60 50), (u60 51), (u60 52), (u60 53), (u60 54), (u60 55), (u60 56), (u60 57), (u60 58), (u60 59), (u60 60), (u60 61), (u60 62), (u60 63), (u60 64), (u60 65), (u60 66), (u60 67), (u60 68), (u60 69), (u60 70), (u60 71), (u60 72), (u60 73), (u60 74), (u60 75), (u60 76), (u60 77), (u60 78), (u60 79), (u60 80), (u60 81), (u60 82), (u60 83), (u60 84), (u60 85), (u60 86), (u60 87), (u60 88), (u60 89), (u60 90), (u60 91), (u60 92), (u60 93), (u60 94), (u60 95), (u60 96), (u60 97), (u60 98), (u60 99), (u60 100), (u60 101), (u60 102), (u60 103), (u60 104), (u60 105), (u60 106), (u60 107), (u60 108)]) _
      refine q_is rfl rfl (does_loadAgg (cs := [(Iv el1.kind), (Iv el1.to), (Iv el1.a), (Iv el1.b), (Iv el1.node.kind), (Iv el1.node.a), (Iv el1.node.b), (.slice p77 el1.node.nums.length q78)]) (ev rfl) Try.isAgg43 Try.sizeOf43 hc74 rfl) (by dsimp only [List.set]; try rfl) ?_
      refine seqd rfl rfl (does_alloc z43) ?_; rintro _ w84 ⟨b80, rfl, hb81, hB82, E83⟩
      have n85 : b12 < b80 := Nat.lt_of_lt_of_le (Blk.lt (((hB14.ext E22).ext E51).ext E62)) hb81
      have n86 : b19 < b80 := Nat.lt_of_lt_of_le (Blk.lt ((hB21.ext E51).ext E62)) hb81
      have n87 : b71 < b80 := Nat.lt_of_lt_of_le (cell_lt (Cells.at hc74 0 rfl)) hb81
      have g88 : w.heap.size ≤ b80 := Nat.le_trans (Below.size X64) hb81
      change Blk _ _ [(Iv 0), (Iv 0), (Iv 0), (Iv 0), (Iv 0), (Iv 0), (Iv 0), (.slice none 0 0)] at hB82
      have X89 := Ext.gr X64 E83
      show wpList _ _ _ _ (fr [(.agg #[(Iv A_x_.points), (Iv A_x_.values), (.slice p5 A_x_.steps.length q6)]), (.agg #[(Iv A_y_.points), (Iv A_y_.values), (.slice p8 A_y_.steps.length q9)]), (Pt b12 0), (Pt b19 0), (u60 4), (Iv (k : Int)), (Pt b80 0), (u60 7), v29, v30, v31, v32, v33, v34, v35, v36, v37, v38, v39, v40, v41, v42, v43, v44, v45, v46, v47, v48, (Bo ((β1 || β2) || β3)), (Pt b12 2), (.slice p5 A_x_.steps.length q6), (Iv (A_x_.steps.length : Int)), (Iv (k : Int)), (Bo (icmp .lss (k : Int) (A_x_.steps.length : Int))), (Iv (k : Int)), (Pt b12 2), (.slice p5 A_x_.steps.length q6), (Iv (k : Int)), (Pt b71 o72), (.agg #[(Iv el1.kind), (Iv el1.to), (Iv el1.a), (Iv el1.b), (Iv el1.node.kind), (Iv el1.node.a), (Iv el1.node.b), (.slice p77 el1.node.nums.length q78)]), (u60 40), (u60 41), (u60 42), (u60 43), (u60 44), (u60 45), (u60 46), (u60 47), (u60 48), (u60 49), (u60 50), (u60 51), (u60 52), (u60 53), (u60 54), (u60 55), (u60 56), (u60 57), (u60 58), (u60 59), (u60 60), (u60 61), (u60 62), (u60 63), (u60 64), (u60 65), (u60 66), (u60 67), (u60 68), (u60 69), (u60 70), (u60 71), (u60 72), (u60 73), (u60 74), (u60 75), (u60 76), (u60 77), (u60 78), (u60 79), (u60 80), (u60 81), (u60 82), (u60 83), (u60 84), (u60 85), (u60 86), (u60 87), (u60 88), (u60 89), (u60 90), (u60 91), (u60 92), (u60 93), (u60 94), (u60 95), (u60 96), (u60 97), (u60 98), (u60 99), (u60 100), (u60 101), (u60 102), (u60 103), (u60 104), (u60 105), (u60 106), (u60 107), (u60 108)]) _
      refine seqn rfl rfl (does_store (n := 8) (cs := [(Iv 0), (Iv 0), (Iv 0), (Iv 0), (Iv 0), (Iv 0), (Iv 0), (.slice none 0 0)]) (u := (.agg #[(Iv el1.kind), (Iv el1.to), (Iv el1.a), (Iv el1.b), (Iv el1.node.kind), (Iv el1.node.a), (Iv el1.node.b), (.slice p77 el1.node.nums.length q78)])) (ev rfl) (ev rfl) Try.sizeOf43 rfl hB82 (Nat.le_of_ble_eq_true rfl) rfl) ?_; rintro _ w92 ⟨rfl, W90, hB91⟩
      change Blk _ _ [(Iv el1.kind), (Iv el1.to), (Iv el1.a), (Iv el1.b), (Iv el1.node.kind), (Iv el1.node.a), (Iv el1.node.b), (.slice p77 el1.node.nums.length q78)] at hB91
      have X93 := Below.wr X89 W90 g88
      refine wpList_nil (hK70 _ _ ?_)
      refine wp_seq_k fun K94 hK94 => ?_
      refine wp_region_lit ?_
      refine q_is rfl rfl (does_fieldAddr (ev rfl) fa29_2) (by dsimp only [List.set]; try rfl) ?_
      refine q_is rfl rfl (does_load (u := (.slice p8 A_y_.steps.length q9)) (ev rfl) Try.isAgg27 (Cells.at (Blk.cells ((((hB21.ext E51).ext E62).ext E83).wr W90 (Nat.ne_of_lt n86))) 2 rfl)) (by dsimp only [List.set]; try rfl) ?_
      refine q_is rfl rfl (does_move (u := (Iv (k : Int))) (ev rfl)) (by dsimp only [List.set]; try rfl) ?_
      obtain ⟨el2, hel2⟩ : ∃ e, A_y_.steps[k]? = some e := ⟨_, List.getElem?_eq_getElem (by omega)⟩
      refine seqd rfl rfl (does_indexSl (R := RStepT) (i := (k : Int)) (xs := A_y_.steps) (e := el2) Try.underlying27 Try.sizeOf43 (ev rfl) (ev rfl) (Sl.ext hs10 RStepT.mono X93) (by omega) hel2) ?_; rintro _ w92 ⟨b95, o96, _, rfl, hc98, ⟨y99, rfl, h100⟩, rfl⟩
      have hs103 := h100; have hs103l := Sl.len h100; obtain ⟨p101, q102, rfl⟩ := Sl.shape h100
      show wpList _ _ _ _ (fr [(.agg #[(Iv A_x_.points), (Iv A_x_.values), (.slice p5 A_x_.steps.length q6)]), (.agg #[(Iv A_y_.points), (Iv A_y_.values), (.slice p8 A_y_.steps.length q9)]), (Pt b12 0), (Pt b19 0), (u60 4), (Iv (k : Int)), (Pt b80 0), (u60 7), v29, v30, v31, v32, v33, v34, v35, v36, v37, v38, v39, v40, v41, v42, v43, v44, v45, v46, v47, v48, (Bo ((β1 || β2) || β3)), (Pt b12 2), (.slice p5 A_x_.steps.length q6), (Iv (A_x_.steps.length : Int)), (Iv (k : Int)), (Bo (icmp .lss (k : Int) (A_x_.steps.length : Int))), (Iv (k : Int)), (Pt b12 2), (.slice p5 A_x_.steps.length q6), (Iv (k : Int)), (Pt b71 o72), (.agg #[(Iv el1.kind), (Iv el1.to), (Iv el1.a), (Iv el1.b), (Iv el1.node.kind), (Iv el1.node.a), (Iv el1.node.b), (.slice p77 el1.node.nums.length q78)]), (Pt b19 2), (.slice p8 A_y_.steps.length q9), (Iv (k : Int)), (Pt b95 o96), (u60 44), (u60 45), (u60 46), (u60 47), (u60 48), (u60 49), (u60 50), (u60 51), (u60 52), (u60 53), (u60 54), (u60 55), (u60 56), (u60 57), (u60 58), (u60 59), (u60 60), (u60 61), (u60 62), (u60 63), (u60 64), (u60 65), (u60 66), (u60 67), (u60 68), (u60 69), (u60 70), (u60 71), (u60 72), (u60 73), (u60 74), (u60 75), (u60 76), (u60 77), (u60 78), (u60 79), (u60 80), (u60 81), (u60 82), (u60 83), (u60 84), (u60 85), (u60 86), (u60 87), (u60 88), (u60 89), (u60 90), (u60 91), (u60 92), (u60 93), (u60 94), (u60 95), (u60 96), (u60 97), (u60 98), (u60 99), (u60 100), (u60 101), (u60 102), (u60 103), (u60 104), (u60 105), (u60 106), (u60 107), (u60 108)]) _
      refine q_is rfl rfl (does_loadAgg (cs := [(Iv el2.kind), (Iv el2.to), (Iv el2.a), (Iv el2.b), (Iv el2.node.kind), (Iv el2.node.a), (Iv el2.node.b), (.slice p101 el2.node.nums.length q102)]) (ev rfl) Try.isAgg43 Try.sizeOf43 hc98 rfl) (by dsimp only [List.set]; try rfl) ?_
      refine seqd rfl rfl (does_alloc z43) ?_; rintro _ w108 ⟨b104, rfl, hb105, hB106, E107⟩
      have n109 : b12 < b104 := Nat.lt_of_lt_of_le (Blk.lt (((((hB14.ext E22).ext E51).ext E62).ext E83).wr W90 (Nat.ne_of_lt n85))) hb105
      have n110 : b19 < b104 := Nat.lt_of_lt_of_le (Blk.lt ((((hB21.ext E51).ext E62).ext E83).wr W90 (Nat.ne_of_lt n86))) hb105
      have n111 : b71 < b104 := Nat.lt_of_lt_of_le (cell_lt (Cells.at ((hc74.ext E83).wr W90 (Nat.ne_of_lt n87)) 0 rfl)) hb105
      have n112 : b80 < b104 := Nat.lt_of_lt_of_le (Blk.lt hB91) hb105
      have n113 : b95 < b104 := Nat.lt_of_lt_of_le (cell_lt (Cells.at hc98 0 rfl)) hb105
      have g114 : w.heap.size ≤ b104 := Nat.le_trans (Below.size X93) hb105
      change Blk _ _ [(Iv 0), (Iv 0), (Iv 0), (Iv 0), (Iv 0), (Iv 0), (Iv 0), (.slice none 0 0)] at hB106
      have X115 := Ext.gr X93 E107
      show wpList _ _ _ _ (fr [(.agg #[(Iv A_x_.points), (Iv A_x_.values), (.slice p5 A_x_.steps.length q6)]), (.agg #[(Iv A_y_.points), (Iv A_y_.values), (.slice p8 A_y_.steps.length q9)]), (Pt b12 0), (Pt b19 0), (u60 4), (Iv (k : Int)), (Pt b80 0), (Pt b104 0), v29, v30, v31, v32, v33, v34, v35, v36, v37, v38, v39, v40, v41, v42, v43, v44, v45, v46, v47, v48, (Bo ((β1 || β2) || β3)), (Pt b12 2), (.slice p5 A_x_.steps.length q6), (Iv (A_x_.steps.length : Int)), (Iv (k : Int)), (Bo (icmp .lss (k : Int) (A_x_.steps.length : Int))), (Iv (k : Int)), (Pt b12 2), (.slice p5 A_x_.steps.length q6), (Iv (k : Int)), (Pt b71 o72), (.agg #[(Iv el1.kind), (Iv el1.to), (Iv el1.a), (Iv el1.b), (Iv el1.node.kind), (Iv el1.node.a), (Iv el1.node.b), (.slice p77 el1.node.nums.length q78)]), (Pt b19 2), (.slice p8 A_y_.steps.length q9), (Iv (k : Int)), (Pt b95 o96), (.agg #[(Iv el2.kind), (Iv el2.to), (Iv el2.a), (Iv el2.b), (Iv el2.node.kind), (Iv el2.node.a), (Iv el2.node.b), (.slice p101 el2.node.nums.length q102)]), (u60 45), (u60 46), (u60 47), (u60 48), (u60 49), (u60 50), (u60 51), (u60 52), (u60 53), (u60 54), (u60 55), (u60 56), (u60 57), (u60 58), (u60 59), (u60 60), (u60 61), (u60 62), (u60 63), (u60 64), (u60 65), (u60 66), (u60 67), (u60 68), (u60 69), (u60 70), (u60 71), (u60 72), (u60 73), (u60 74), (u60 75), (u60 76), (u60 77), (u60 78), (u60 79), (u60 80), (u60 81), (u60 82), (u60 83), (u60 84), (u60 85), (u60 86), (u60 87), (u60 88), (u60 89), (u60 90), (u60 91), (u60 92), (u60 93), (u60 94), (u60 95), (u60 96), (u60 97), (u60 98), (u60 99), (u60 100), (u60 101), (u60 102), (u60 103), (u60 104), (u60 105), (u60 106), (u60 107), (u60 108)]) _
      refine seqn rfl rfl (does_store (n := 8) (cs := [(Iv 0), (Iv 0), (Iv 0), (Iv 0), (Iv 0), (Iv 0), (Iv 0), (.slice none 0 0)]) (u := (.agg #[(Iv el2.kind), (Iv el2.to), (Iv el2.a), (Iv el2.b), (Iv el2.node.kind), (Iv el2.node.a), (Iv el2.node.b), (.slice p101 el2.node.nums.length q102)])) (ev rfl) (ev rfl) Try.sizeOf43 rfl hB106 (Nat.le_of_ble_eq_true rfl) rfl) ?_; rintro _ w118 ⟨rfl, W116, hB117⟩
      change Blk _ _ [(Iv el2.kind), (Iv el2.to), (Iv el2.a), (Iv el2.b), (Iv el2.node.kind), (Iv el2.node.a), (Iv el2.node.b), (.slice p101 el2.node.nums.length q102)] at hB117
      have X119 := Below.wr X115 W116 g114
      refine wpList_nil (hK94 _ _ ?_)
      refine wp_seq_k fun K120 hK120 => ?_
      obtain ⟨β4, hβ4⟩ : ∃ b : Bool, b = (icmp .neq el1.kind el2.kind) := ⟨_, rfl⟩
      obtain ⟨β5, hβ5⟩ : ∃ b : Bool, b = (β4 || (icmp .neq el1.to el2.to)) := ⟨_, rfl⟩
      obtain ⟨β6, hβ6⟩ : ∃ b : Bool, b = (β5 || (icmp .neq el1.a el2.a)) := ⟨_, rfl⟩
      obtain ⟨β7, hβ7⟩ : ∃ b : Bool, b = (β6 || (icmp .neq el1.b el2.b)) := ⟨_, rfl⟩
      obtain ⟨β8, hβ8⟩ : ∃ b : Bool, b = (icmp .neq el1.node.kind el2.node.kind) := ⟨_, rfl⟩
      obtain ⟨β9, hβ9⟩ : ∃ b : Bool, b = (icmp .neq el1.node.a el2.node.a) := ⟨_, rfl⟩
      obtain ⟨β10, hβ10⟩ : ∃ b : Bool, b = (icmp .neq el1.node.b el2.node.b) := ⟨_, rfl⟩
      obtain ⟨β11, hβ11⟩ : ∃ b : Bool, b = (((β7 || β8) || β9) || β10) := ⟨_, rfl⟩
      obtain ⟨β12, hβ12⟩ : ∃ b : Bool, b = (sameX sBits el1.node.nums el2.node.nums) := ⟨_, rfl⟩
      refine region_text (
        [Fact.pure [] (fun v => v = (Pt b80 0)),
    Fact.pure [45] (fun v => v = (Iv el1.kind)),
    Fact.pure [] (fun v => v = (Pt b104 0)),
    Fact.pure [47] (fun v => v = (Iv el2.kind)),
    Fact.pure [46, 48] (fun v => v = (Bo β4)),
    Fact.pure [49] (fun v => v = (Bo β4)),
    Fact.pure [50] (fun v => β4 = false → v = (Pt b80 1)),
    Fact.pure [51, 50] (fun v => β4 = false → v = (Iv el1.to)),
    Fact.pure [50] (fun v => β4 = false → v = (Pt b104 1)),
    Fact.pure [53, 50] (fun v => β4 = false → v = (Iv el2.to)),
    Fact.pure [52, 54, 50] (fun v => β4 = false → v = (Bo (icmp .neq el1.to el2.to))),
    Fact.pure [50, 55] (fun v => v = (Bo β5)),
    Fact.pure [56] (fun v => v = (Bo β5)),
    Fact.pure [57] (fun v => β5 = false → v = (Pt b80 2)),
    Fact.pure [58, 57] (fun v => β5 = false → v = (Iv el1.a)),
    Fact.pure [57] (fun v => β5 = false → v = (Pt b104 2)),
    Fact.pure [60, 57] (fun v => β5 = false → v = (Iv el2.a)),
    Fact.pure [59, 61, 57] (fun v => β5 = false → v = (Bo (icmp .neq el1.a el2.a))),
    Fact.pure [57, 62] (fun v => v = (Bo β6)),
    Fact.pure [63] (fun v => v = (Bo β6)),
    Fact.pure [64] (fun v => β6 = false → v = (Pt b80 3)),
    Fact.pure [65, 64] (fun v => β6 = false → v = (Iv el1.b)),
    Fact.pure [64] (fun v => β6 = false → v = (Pt b104 3)),
    Fact.pure [67, 64] (fun v => β6 = false → v = (Iv el2.b)),
    Fact.pure [66, 68, 64] (fun v => β6 = false → v = (Bo (icmp .neq el1.b el2.b))),
    Fact.pure [64, 69] (fun v => v = (Bo β7)),
    Fact.pure [70] (fun v => v = (Bo β7)),
    Fact.pure [71] (fun v => β7 = false → v = (Pt b80 4)),
    Fact.pure [72, 71] (fun v => β7 = false → v = (Pt b80 4)),
    Fact.pure [73, 71] (fun v => β7 = false → v = (Iv el1.node.kind)),
    Fact.pure [71] (fun v => β7 = false → v = (Pt b104 4)),
    Fact.pure [75, 71] (fun v => β7 = false → v = (Pt b104 4)),
    Fact.pure [76, 71] (fun v => β7 = false → v = (Iv el2.node.kind)),
    Fact.pure [74, 77, 71] (fun v => β7 = false → v = (Bo β8)),
    Fact.pure [71, 78] (fun v => v = (Bo (β7 || β8))),
    Fact.pure [79] (fun v => v = (Bo (β7 || β8))),
    Fact.pure [80] (fun v => (β7 || β8) = false → v = (Pt b80 4)),
    Fact.pure [81, 80] (fun v => (β7 || β8) = false → v = (Pt b80 5)),
    Fact.pure [82, 80] (fun v => (β7 || β8) = false → v = (Iv el1.node.a)),
    Fact.pure [80] (fun v => (β7 || β8) = false → v = (Pt b104 4)),
    Fact.pure [84, 80] (fun v => (β7 || β8) = false → v = (Pt b104 5)),
    Fact.pure [85, 80] (fun v => (β7 || β8) = false → v = (Iv el2.node.a)),
    Fact.pure [83, 86, 80] (fun v => (β7 || β8) = false → v = (Bo β9)),
    Fact.pure [80, 87] (fun v => v = (Bo ((β7 || β8) || β9))),
    Fact.pure [88] (fun v => v = (Bo ((β7 || β8) || β9))),
    Fact.pure [89] (fun v => ((β7 || β8) || β9) = false → v = (Pt b80 4)),
    Fact.pure [90, 89] (fun v => ((β7 || β8) || β9) = false → v = (Pt b80 6)),
    Fact.pure [91, 89] (fun v => ((β7 || β8) || β9) = false → v = (Iv el1.node.b)),
    Fact.pure [89] (fun v => ((β7 || β8) || β9) = false → v = (Pt b104 4)),
    Fact.pure [93, 89] (fun v => ((β7 || β8) || β9) = false → v = (Pt b104 6)),
    Fact.pure [94, 89] (fun v => ((β7 || β8) || β9) = false → v = (Iv el2.node.b)),
    Fact.pure [92, 95, 89] (fun v => ((β7 || β8) || β9) = false → v = (Bo β10)),
    Fact.pure [89, 96] (fun v => v = (Bo β11)),
    Fact.pure [97] (fun v => v = (Bo β11)),
    Fact.pure [98] (fun v => β11 = false → v = (Pt b80 4)),
    Fact.pure [99, 98] (fun v => β11 = false → v = (Pt b80 7)),
    Fact.pure [100, 98] (fun v => β11 = false → v = (.slice p77 el1.node.nums.length q78)),
    Fact.pure [98] (fun v => β11 = false → v = (Pt b104 4)),
    Fact.pure [102, 98] (fun v => β11 = false → v = (Pt b104 7)),
    Fact.pure [103, 98] (fun v => β11 = false → v = (.slice p101 el2.node.nums.length q102)),
    Fact.pure [101, 104, 98] (fun v => β11 = false → v = (Bo β12)),
    Fact.pure [105, 98] (fun v => β11 = false → v = (Bo (!β12))),
    Fact.pure [98, 106] (fun v => v = (Bo (β11 || (!β12))))]) (by simp [Fact.pure, Fact.mem]) ?_
      refine RW_d _ rfl (fun v => by dsimp only [List.set]; try rfl) (fun u hu hF => ?_) (fun v121 => ?_)
      · clear hF
        refine doesG_un rfl ?_
        refine (does_fieldAddr (ev rfl) fa43_0).mono ?_; rintro _ _ ⟨rfl, rfl⟩
        exact ⟨rfl, Ext.refl _⟩
      refine RW_d _ rfl (fun v => by dsimp only [List.set]; try rfl) (fun u hu hF => ?_) (fun v122 => ?_)
      · have h45_ : v121 = (Pt b80 0) := hF.1
        clear hF
        refine doesG_un rfl ?_
        obtain rfl := h45_
        refine (does_load (u := (Iv el1.kind)) (ev rfl) Try.isAgg2 (Cells.at (Blk.cells (((hB91.ext E107).wr W116 (Nat.ne_of_lt n112)).ext hu)) 0 rfl)).mono ?_; rintro _ _ ⟨rfl, rfl⟩
        exact ⟨rfl, Ext.refl _⟩
      refine RW_d _ rfl (fun v => by dsimp only [List.set]; try rfl) (fun u hu hF => ?_) (fun v123 => ?_)
      · clear hF
        refine doesG_un rfl ?_
        refine (does_fieldAddr (ev rfl) fa43_0).mono ?_; rintro _ _ ⟨rfl, rfl⟩
        exact ⟨rfl, Ext.refl _⟩
      refine RW_d _ rfl (fun v => by dsimp only [List.set]; try rfl) (fun u hu hF => ?_) (fun v124 => ?_)
      · have h47_ : v123 = (Pt b104 0) := hF.1
        clear hF
        refine doesG_un rfl ?_
        obtain rfl := h47_
        refine (does_load (u := (Iv el2.kind)) (ev rfl) Try.isAgg2 (Cells.at (Blk.cells (hB117.ext hu)) 0 rfl)).mono ?_; rintro _ _ ⟨rfl, rfl⟩
        exact ⟨rfl, Ext.refl _⟩
      refine RW_d _ rfl (fun v => by dsimp only [List.set]; try rfl) (fun u hu hF => ?_) (fun v125 => ?_)
      · have h46_ : v122 = (Iv el1.kind) := hF.1
        have h48_ : v124 = (Iv el2.kind) := hF.2.1
        clear hF
        refine doesG_un rfl ?_
        obtain rfl := h46_
        obtain rfl := h48_
        refine (does_icmp (p := el1.kind) (q := el2.kind) (.inr (.inl rfl)) (ev rfl) (ev rfl)).mono ?_; rintro _ _ ⟨rfl, rfl⟩
        exact ⟨(by first | rfl | (show _ = _; simp only [hβ4])), Ext.refl _⟩
      refine RW_d _ rfl (fun v => by dsimp only [List.set]; try rfl) (fun u hu hF => ?_) (fun v126 => ?_)
      · have h49_ : v125 = (Bo β4) := hF.1
        clear hF
        refine doesG_un rfl ?_
        obtain rfl := h49_
        refine (does_move (u := (Bo β4)) (ev rfl)).mono ?_; rintro _ _ ⟨rfl, rfl⟩
        exact ⟨rfl, Ext.refl _⟩
      refine RW_d _ rfl (fun v => by dsimp only [List.set]; try rfl) (fun u hu hF => ?_) (fun v127 => ?_)
      · have h50_ : v126 = (Bo β4) := hF.1
        clear hF
        obtain rfl := h50_
        refine doesG_g (b := β4) rfl (yld rfl rfl) (fun hg1 => ?_) (fun hc => ⟨fun hg1 => absurd hg1 hc, Ext.refl _⟩)
        refine (does_fieldAddr (ev rfl) fa43_1).mono ?_; rintro _ _ ⟨rfl, rfl⟩
        exact ⟨fun _ => rfl, Ext.refl _⟩
      refine RW_d _ rfl (fun v => by dsimp only [List.set]; try rfl) (fun u hu hF => ?_) (fun v128 => ?_)
      · have h51_ : β4 = false → v127 = (Pt b80 1) := hF.1
        have h50_ : v126 = (Bo β4) := hF.2.1
        clear hF
        obtain rfl := h50_
        refine doesG_g (b := β4) rfl (yld rfl rfl) (fun hg1 => ?_) (fun hc => ⟨fun hg1 => absurd hg1 hc, Ext.refl _⟩)
        obtain rfl := h51_ hg1
        refine (does_load (u := (Iv el1.to)) (ev rfl) Try.isAgg2 (Cells.at (Blk.cells (((hB91.ext E107).wr W116 (Nat.ne_of_lt n112)).ext hu)) 1 rfl)).mono ?_; rintro _ _ ⟨rfl, rfl⟩
        exact ⟨fun _ => rfl, Ext.refl _⟩
      refine RW_d _ rfl (fun v => by dsimp only [List.set]; try rfl) (fun u hu hF => ?_) (fun v129 => ?_)
      · have h50_ : v126 = (Bo β4) := hF.1
        clear hF
        obtain rfl := h50_
        refine doesG_g (b := β4) rfl (yld rfl rfl) (fun hg1 => ?_) (fun hc => ⟨fun hg1 => absurd hg1 hc, Ext.refl _⟩)
        refine (does_fieldAddr (ev rfl) fa43_1).mono ?_; rintro _ _ ⟨rfl, rfl⟩
        exact ⟨fun _ => rfl, Ext.refl _⟩
      refine RW_d _ rfl (fun v => by dsimp only [List.set]; try rfl) (fun u hu hF => ?_) (fun v130 => ?_)
      · have h53_ : β4 = false → v129 = (Pt b104 1) := hF.1
        have h50_ : v126 = (Bo β4) := hF.2.1
        clear hF
        obtain rfl := h50_
        refine doesG_g (b := β4) rfl (yld rfl rfl) (fun hg1 => ?_) (fun hc => ⟨fun hg1 => absurd hg1 hc, Ext.refl _⟩)
        obtain rfl := h53_ hg1
        refine (does_load (u := (Iv el2.to)) (ev rfl) Try.isAgg2 (Cells.at (Blk.cells (hB117.ext hu)) 1 rfl)).mono ?_; rintro _ _ ⟨rfl, rfl⟩
        exact ⟨fun _ => rfl, Ext.refl _⟩
      refine RW_d _ rfl (fun v => by dsimp only [List.set]; try rfl) (fun u hu hF => ?_) (fun v131 => ?_)
      · have h52_ : β4 = false → v128 = (Iv el1.to) := hF.1
        have h54_ : β4 = false → v130 = (Iv el2.to) := hF.2.1
        have h50_ : v126 = (Bo β4) := hF.2.2.1
        clear hF
        obtain rfl := h50_
        refine doesG_g (b := β4) rfl (yld rfl rfl) (fun hg1 => ?_) (fun hc => ⟨fun hg1 => absurd hg1 hc, Ext.refl _⟩)
        obtain rfl := h52_ hg1
        obtain rfl := h54_ hg1
        refine (does_icmp (p := el1.to) (q := el2.to) (.inr (.inl rfl)) (ev rfl) (ev rfl)).mono ?_; rintro _ _ ⟨rfl, rfl⟩
        exact ⟨fun _ => rfl, Ext.refl _⟩
      refine RW_d _ rfl (fun v => by dsimp only [List.set]; try rfl) (fun u hu hF => ?_) (fun v132 => ?_)
      · have h50_ : v126 = (Bo β4) := hF.1
        have h55_ : β4 = false → v131 = (Bo (icmp .neq el1.to el2.to)) := hF.2.1
        clear hF
        refine doesG_un rfl ?_
        skip
        obtain rfl := h50_
        refine (does_pick (b := β4) (ev rfl) (ev rfl) (ev rfl)).mono ?_; rintro _ _ ⟨rfl, rfl⟩; refine ⟨?_, Ext.refl _⟩; rw [hβ5]; skip
        cases hbb : β4 <;> simp [hbb] at h55_ ⊢
        all_goals (first | rfl | (subst h55_; rfl) | simp_all)
      refine RW_d _ rfl (fun v => by dsimp only [List.set]; try rfl) (fun u hu hF => ?_) (fun v133 => ?_)
      · have h56_ : v132 = (Bo β5) := hF.1
        clear hF
        refine doesG_un rfl ?_
        obtain rfl := h56_
        refine (does_move (u := (Bo β5)) (ev rfl)).mono ?_; rintro _ _ ⟨rfl, rfl⟩
        exact ⟨rfl, Ext.refl _⟩
      refine RW_d _ rfl (fun v => by dsimp only [List.set]; try rfl) (fun u hu hF => ?_) (fun v134 => ?_)
      · have h57_ : v133 = (Bo β5) := hF.1
        clear hF
        obtain rfl := h57_
        refine doesG_g (b := β5) rfl (yld rfl rfl) (fun hg1 => ?_) (fun hc => ⟨fun hg1 => absurd hg1 hc, Ext.refl _⟩)
        refine (does_fieldAddr (ev rfl) fa43_2).mono ?_; rintro _ _ ⟨rfl, rfl⟩
        exact ⟨fun _ => rfl, Ext.refl _⟩
      refine RW_d _ rfl (fun v => by dsimp only [List.set]; try rfl) (fun u hu hF => ?_) (fun v135 => ?_)
      · have h58_ : β5 = false → v134 = (Pt b80 2) := hF.1
        have h57_ : v133 = (Bo β5) := hF.2.1
        clear hF
        obtain rfl := h57_
        refine doesG_g (b := β5) rfl (yld rfl rfl) (fun hg1 => ?_) (fun hc => ⟨fun hg1 => absurd hg1 hc, Ext.refl _⟩)
        obtain rfl := h58_ hg1
        refine (does_load (u := (Iv el1.a)) (ev rfl) Try.isAgg2 (Cells.at (Blk.cells (((hB91.ext E107).wr W116 (Nat.ne_of_lt n112)).ext hu)) 2 rfl)).mono ?_; rintro _ _ ⟨rfl, rfl⟩
        exact ⟨fun _ => rfl, Ext.refl _⟩
      refine RW_d _ rfl (fun v => by dsimp only [List.set]; try rfl) (fun u hu hF => ?_) (fun v136 => ?_)
      · have h57_ : v133 = (Bo β5) := hF.1
        clear hF
        obtain rfl := h57_
        refine doesG_g (b := β5) rfl (yld rfl rfl) (fun hg1 => ?_) (fun hc => ⟨fun hg1 => absurd hg1 hc, Ext.refl _⟩)
        refine (does_fieldAddr (ev rfl) fa43_2).mono ?_; rintro _ _ ⟨rfl, rfl⟩
        exact ⟨fun _ => rfl, Ext.refl _⟩
      refine RW_d _ rfl (fun v => by dsimp only [List.set]; try rfl) (fun u hu hF => ?_) (fun v137 => ?_)
      · have h60_ : β5 = false → v136 = (Pt b104 2) := hF.1
        have h57_ : v133 = (Bo β5) := hF.2.1
        clear hF
        obtain rfl := h57_
        refine doesG_g (b := β5) rfl (yld rfl rfl) (fun hg1 => ?_) (fun hc => ⟨fun hg1 => absurd hg1 hc, Ext.refl _⟩)
        obtain rfl := h60_ hg1
        refine (does_load (u := (Iv el2.a)) (ev rfl) Try.isAgg2 (Cells.at (Blk.cells (hB117.ext hu)) 2 rfl)).mono ?_; rintro _ _ ⟨rfl, rfl⟩
        exact ⟨fun _ => rfl, Ext.refl _⟩
      refine RW_d _ rfl (fun v => by dsimp only [List.set]; try rfl) (fun u hu hF => ?_) (fun v138 => ?_)
      · have h59_ : β5 = false → v135 = (Iv el1.a) := hF.1
        have h61_ : β5 = false → v137 = (Iv el2.a) := hF.2.1
        have h57_ : v133 = (Bo β5) := hF.2.2.1
        clear hF
        obtain rfl := h57_
        refine doesG_g (b := β5) rfl (yld rfl rfl) (fun hg1 => ?_) (fun hc => ⟨fun hg1 => absurd hg1 hc, Ext.refl _⟩)
        obtain rfl := h59_ hg1
        obtain rfl := h61_ hg1
        refine (does_icmp (p := el1.a) (q := el2.a) (.inr (.inl rfl)) (ev rfl) (ev rfl)).mono ?_; rintro _ _ ⟨rfl, rfl⟩
        exact ⟨fun _ => rfl, Ext.refl _⟩
      refine RW_d _ rfl (fun v => by dsimp only [List.set]; try rfl) (fun u hu hF => ?_) (fun v139 => ?_)
      · have h57_ : v133 = (Bo β5) := hF.1
        have h62_ : β5 = false → v138 = (Bo (icmp .neq el1.a el2.a)) := hF.2.1
        clear hF
        refine doesG_un rfl ?_
        skip
        obtain rfl := h57_
        refine (does_pick (b := β5) (ev rfl) (ev rfl) (ev rfl)).mono ?_; rintro _ _ ⟨rfl, rfl⟩; refine ⟨?_, Ext.refl _⟩; rw [hβ6]; skip
        cases hbb : β5 <;> simp [hbb] at h62_ ⊢
        all_goals (first | rfl | (subst h62_; rfl) | simp_all)
      refine RW_d _ rfl (fun v => by dsimp only [List.set]; try rfl) (fun u hu hF => ?_) (fun v140 => ?_)
      · have h63_ : v139 = (Bo β6) := hF.1
        clear hF
        refine doesG_un rfl ?_
        obtain rfl := h63_
        refine (does_move (u := (Bo β6)) (ev rfl)).mono ?_; rintro _ _ ⟨rfl, rfl⟩
        exact ⟨rfl, Ext.refl _⟩
      refine RW_d _ rfl (fun v => by dsimp only [List.set]; try rfl) (fun u hu hF => ?_) (fun v141 => ?_)
      · have h64_ : v140 = (Bo β6) := hF.1
        clear hF
        obtain rfl := h64_
        refine doesG_g (b := β6) rfl (yld rfl rfl) (fun hg1 => ?_) (fun hc => ⟨fun hg1 => absurd hg1 hc, Ext.refl _⟩)
        refine (does_fieldAddr (ev rfl) fa43_3).mono ?_; rintro _ _ ⟨rfl, rfl⟩
        exact ⟨fun _ => rfl, Ext.refl _⟩
      refine RW_d _ rfl (fun v => by dsimp only [List.set]; try rfl) (fun u hu hF => ?_) (fun v142 => ?_)
      · have h65_ : β6 = false → v141 = (Pt b80 3) := hF.1
        have h64_ : v140 = (Bo β6) := hF.2.1
        clear hF
        obtain rfl := h64_
        refine doesG_g (b := β6) rfl (yld rfl rfl) (fun hg1 => ?_) (fun hc => ⟨fun hg1 => absurd hg1 hc, Ext.refl _⟩)
        obtain rfl := h65_ hg1
        refine (does_load (u := (Iv el1.b)) (ev rfl) Try.isAgg2 (Cells.at (Blk.cells (((hB91.ext E107).wr W116 (Nat.ne_of_lt n112)).ext hu)) 3 rfl)).mono ?_; rintro _ _ ⟨rfl, rfl⟩
        exact ⟨fun _ => rfl, Ext.refl _⟩
      refine RW_d _ rfl (fun v => by dsimp only [List.set]; try rfl) (fun u hu hF => ?_) (fun v143 => ?_)
      · have h64_ : v140 = (Bo β6) := hF.1
        clear hF
        obtain rfl := h64_
        refine doesG_g (b := β6) rfl (yld rfl rfl) (fun hg1 => ?_) (fun hc => ⟨fun hg1 => absurd hg1 hc, Ext.refl _⟩)
        refine (does_fieldAddr (ev rfl) fa43_3).mono ?_; rintro _ _ ⟨rfl, rfl⟩
        exact ⟨fun _ => rfl, Ext.refl _⟩
      refine RW_d _ rfl (fun v => by dsimp only [List.set]; try rfl) (fun u hu hF => ?_) (fun v144 => ?_)
      · have h67_ : β6 = false → v143 = (Pt b104 3) := hF.1
        have h64_ : v140 = (Bo β6) := hF.2.1
        clear hF
        obtain rfl := h64_
        refine doesG_g (b := β6) rfl (yld rfl rfl) (fun hg1 => ?_) (fun hc => ⟨fun hg1 => absurd hg1 hc, Ext.refl _⟩)
        obtain rfl := h67_ hg1
        refine (does_load (u := (Iv el2.b)) (ev rfl) Try.isAgg2 (Cells.at (Blk.cells (hB117.ext hu)) 3 rfl)).mono ?_; rintro _ _ ⟨rfl, rfl⟩
        exact ⟨fun _ => rfl, Ext.refl _⟩
      refine RW_d _ rfl (fun v => by dsimp only [List.set]; try rfl) (fun u hu hF => ?_) (fun v145 => ?_)
      · have h66_ : β6 = false → v142 = (Iv el1.b) := hF.1
        have h68_ : β6 = false → v144 = (Iv el2.b) := hF.2.1
        have h64_ : v140 = (Bo β6) := hF.2.2.1
        clear hF
        obtain rfl := h64_
        refine doesG_g (b := β6) rfl (yld rfl rfl) (fun hg1 => ?_) (fun hc => ⟨fun hg1 => absurd hg1 hc, Ext.refl _⟩)
        obtain rfl := h66_ hg1
        obtain rfl := h68_ hg1
        refine (does_icmp (p := el1.b) (q := el2.b) (.inr (.inl rfl)) (ev rfl) (ev rfl)).mono ?_; rintro _ _ ⟨rfl, rfl⟩
        exact ⟨fun _ => rfl, Ext.refl _⟩
      refine RW_d _ rfl (fun v => by dsimp only [List.set]; try rfl) (fun u hu hF => ?_) (fun v146 => ?_)
      · have h64_ : v140 = (Bo β6) := hF.1
        have h69_ : β6 = false → v145 = (Bo (icmp .neq el1.b el2.b)) := hF.2.1
        clear hF
        refine doesG_un rfl ?_
        skip
        obtain rfl := h64_
        refine (does_pick (b := β6) (ev rfl) (ev rfl) (ev rfl)).mono ?_; rintro _ _ ⟨rfl, rfl⟩; refine ⟨?_, Ext.refl _⟩; rw [hβ7]; skip
        cases hbb : β6 <;> simp [hbb] at h69_ ⊢
        all_goals (first | rfl | (subst h69_; rfl) | simp_all)
      refine RW_d _ rfl (fun v => by dsimp only [List.set]; try rfl) (fun u hu hF => ?_) (fun v147 => ?_)
      · have h70_ : v146 = (Bo β7) := hF.1
        clear hF
        refine doesG_un rfl ?_
        obtain rfl := h70_
        refine (does_move (u := (Bo β7)) (ev rfl)).mono ?_; rintro _ _ ⟨rfl, rfl⟩
        exact ⟨rfl, Ext.refl _⟩
      refine RW_d _ rfl (fun v => by dsimp only [List.set]; try rfl) (fun u hu hF => ?_) (fun v148 => ?_)
      · have h71_ : v147 = (Bo β7) := hF.1
        clear hF
        obtain rfl := h71_
        refine doesG_g (b := β7) rfl (yld rfl rfl) (fun hg1 => ?_) (fun hc => ⟨fun hg1 => absurd hg1 hc, Ext.refl _⟩)
        refine (does_fieldAddr (ev rfl) fa43_4).mono ?_; rintro _ _ ⟨rfl, rfl⟩
        exact ⟨fun _ => rfl, Ext.refl _⟩
      refine RW_d _ rfl (fun v => by dsimp only [List.set]; try rfl) (fun u hu hF => ?_) (fun v149 => ?_)
      · have h72_ : β7 = false → v148 = (Pt b80 4) := hF.1
        have h71_ : v147 = (Bo β7) := hF.2.1
        clear hF
        obtain rfl := h71_
        refine doesG_g (b := β7) rfl (yld rfl rfl) (fun hg1 => ?_) (fun hc => ⟨fun hg1 => absurd hg1 hc, Ext.refl _⟩)
        obtain rfl := h72_ hg1
        refine (does_fieldAddr (ev rfl) fa37_0).mono ?_; rintro _ _ ⟨rfl, rfl⟩
        exact ⟨fun _ => rfl, Ext.refl _⟩
      refine RW_d _ rfl (fun v => by dsimp only [List.set]; try rfl) (fun u hu hF => ?_) (fun v150 => ?_)
      · have h73_ : β7 = false → v149 = (Pt b80 4) := hF.1
        have h71_ : v147 = (Bo β7) := hF.2.1
        clear hF
        obtain rfl := h71_
        refine doesG_g (b := β7) rfl (yld rfl rfl) (fun hg1 => ?_) (fun hc => ⟨fun hg1 => absurd hg1 hc, Ext.refl _⟩)
        obtain rfl := h73_ hg1
        refine (does_load (u := (Iv el1.node.kind)) (ev rfl) Try.isAgg2 (Cells.at (Blk.cells (((hB91.ext E107).wr W116 (Nat.ne_of_lt n112)).ext hu)) 4 rfl)).mono ?_; rintro _ _ ⟨rfl, rfl⟩
        exact ⟨fun _ => rfl, Ext.refl _⟩
      refine RW_d _ rfl (fun v => by dsimp only [List.set]; try rfl) (fun u hu hF => ?_) (fun v151 => ?_)
      · have h71_ : v147 = (Bo β7) := hF.1
        clear hF
        obtain rfl := h71_
        refine doesG_g (b := β7) rfl (yld rfl rfl) (fun hg1 => ?_) (fun hc => ⟨fun hg1 => absurd hg1 hc, Ext.refl _⟩)
        refine (does_fieldAddr (ev rfl) fa43_4).mono ?_; rintro _ _ ⟨rfl, rfl⟩
        exact ⟨fun _ => rfl, Ext.refl _⟩
      refine RW_d _ rfl (fun v => by dsimp only [List.set]; try rfl) (fun u hu hF => ?_) (fun v152 => ?_)
      · have h75_ : β7 = false → v151 = (Pt b104 4) := hF.1
        have h71_ : v147 = (Bo β7) := hF.2.1
        clear hF
        obtain rfl := h71_
        refine doesG_g (b := β7) rfl (yld rfl rfl) (fun hg1 => ?_) (fun hc => ⟨fun hg1 => absurd hg1 hc, Ext.refl _⟩)
        obtain rfl := h75_ hg1
        refine (does_fieldAddr (ev rfl) fa37_0).mono ?_; rintro _ _ ⟨rfl, rfl⟩
        exact ⟨fun _ => rfl, Ext.refl _⟩
      refine RW_d _ rfl (fun v => by dsimp only [List.set]; try rfl) (fun u hu hF => ?_) (fun v153 => ?_)
      · have h76_ : β7 = false → v152 = (Pt b104 4) := hF.1
        have h71_ : v147 = (Bo β7) := hF.2.1
        clear hF
        obtain rfl := h71_
        refine doesG_g (b := β7) rfl (yld rfl rfl) (fun hg1 => ?_) (fun hc => ⟨fun hg1 => absurd hg1 hc, Ext.refl _⟩)
        obtain rfl := h76_ hg1
        refine (does_load (u := (Iv el2.node.kind)) (ev rfl) Try.isAgg2 (Cells.at (Blk.cells (hB117.ext hu)) 4 rfl)).mono ?_; rintro _ _ ⟨rfl, rfl⟩
        exact ⟨fun _ => rfl, Ext.refl _⟩
      refine RW_d _ rfl (fun v => by dsimp only [List.set]; try rfl) (fun u hu hF => ?_) (fun v154 => ?_)
      · have h74_ : β7 = false → v150 = (Iv el1.node.kind) := hF.1
        have h77_ : β7 = false → v153 = (Iv el2.node.kind) := hF.2.1
        have h71_ : v147 = (Bo β7) := hF.2.2.1
        clear hF
        obtain rfl := h71_
        refine doesG_g (b := β7) rfl (yld rfl rfl) (fun hg1 => ?_) (fun hc => ⟨fun hg1 => absurd hg1 hc, Ext.refl _⟩)
        obtain rfl := h74_ hg1
        obtain rfl := h77_ hg1
        refine (does_icmp (p := el1.node.kind) (q := el2.node.kind) (.inr (.inl rfl)) (ev rfl) (ev rfl)).mono ?_; rintro _ _ ⟨rfl, rfl⟩
        exact ⟨fun _ => (by first | rfl | (show _ = _; simp only [hβ8])), Ext.refl _⟩
      refine RW_d _ rfl (fun v => by dsimp only [List.set]; try rfl) (fun u hu hF => ?_) (fun v155 => ?_)
      · have h71_ : v147 = (Bo β7) := hF.1
        have h78_ : β7 = false → v154 = (Bo β8) := hF.2.1
        clear hF
        refine doesG_un rfl ?_
        skip
        obtain rfl := h71_
        refine (does_pick (b := β7) (ev rfl) (ev rfl) (ev rfl)).mono ?_; rintro _ _ ⟨rfl, rfl⟩; refine ⟨?_, Ext.refl _⟩; skip
        cases hbb : β7 <;> simp [hbb] at h78_ ⊢
        all_goals (first | rfl | (subst h78_; rfl) | simp_all)
      refine RW_d _ rfl (fun v => by dsimp only [List.set]; try rfl) (fun u hu hF => ?_) (fun v156 => ?_)
      · have h79_ : v155 = (Bo (β7 || β8)) := hF.1
        clear hF
        refine doesG_un rfl ?_
        obtain rfl := h79_
        refine (does_move (u := (Bo (β7 || β8))) (ev rfl)).mono ?_; rintro _ _ ⟨rfl, rfl⟩
        exact ⟨rfl, Ext.refl _⟩
      refine RW_d _ rfl (fun v => by dsimp only [List.set]; try rfl) (fun u hu hF => ?_) (fun v157 => ?_)
      · have h80_ : v156 = (Bo (β7 || β8)) := hF.1
        clear hF
        obtain rfl := h80_
        refine doesG_g (b := (β7 || β8)) rfl (yld rfl rfl) (fun hg1 => ?_) (fun hc => ⟨fun hg1 => absurd hg1 hc, Ext.refl _⟩)
        refine (does_fieldAddr (ev rfl) fa43_4).mono ?_; rintro _ _ ⟨rfl, rfl⟩
        exact ⟨fun _ => rfl, Ext.refl _⟩
      refine RW_d _ rfl (fun v => by dsimp only [List.set]; try rfl) (fun u hu hF => ?_) (fun v158 => ?_)
      · have h81_ : (β7 || β8) = false → v157 = (Pt b80 4) := hF.1
        have h80_ : v156 = (Bo (β7 || β8)) := hF.2.1
        clear hF
        obtain rfl := h80_
        refine doesG_g (b := (β7 || β8)) rfl (yld rfl rfl) (fun hg1 => ?_) (fun hc => ⟨fun hg1 => absurd hg1 hc, Ext.refl _⟩)
        obtain rfl := h81_ hg1
        refine (does_fieldAddr (ev rfl) fa37_1).mono ?_; rintro _ _ ⟨rfl, rfl⟩
        exact ⟨fun _ => rfl, Ext.refl _⟩
      refine RW_d _ rfl (fun v => by dsimp only [List.set]; try rfl) (fun u hu hF => ?_) (fun v159 => ?_)
      · have h82_ : (β7 || β8) = false → v158 = (Pt b80 5) := hF.1
        have h80_ : v156 = (Bo (β7 || β8)) := hF.2.1
        clear hF
        obtain rfl := h80_
        refine doesG_g (b := (β7 || β8)) rfl (yld rfl rfl) (fun hg1 => ?_) (fun hc => ⟨fun hg1 => absurd hg1 hc, Ext.refl _⟩)
        obtain rfl := h82_ hg1
        refine (does_load (u := (Iv el1.node.a)) (ev rfl) Try.isAgg2 (Cells.at (Blk.cells (((hB91.ext E107).wr W116 (Nat.ne_of_lt n112)).ext hu)) 5 rfl)).mono ?_; rintro _ _ ⟨rfl, rfl⟩
        exact ⟨fun _ => rfl, Ext.refl _⟩
      refine RW_d _ rfl (fun v => by dsimp only [List.set]; try rfl) (fun u hu hF => ?_) (fun v160 => ?_)
      · have h80_ : v156 = (Bo (β7 || β8)) := hF.1
        clear hF
        obtain rfl := h80_
        refine doesG_g (b := (β7 || β8)) rfl (yld rfl rfl) (fun hg1 => ?_) (fun hc => ⟨fun hg1 => absurd hg1 hc, Ext.refl _⟩)
        refine (does_fieldAddr (ev rfl) fa43_4).mono ?_; rintro _ _ ⟨rfl, rfl⟩
        exact ⟨fun _ => rfl, Ext.refl _⟩
      refine RW_d _ rfl (fun v => by dsimp only [List.set]; try rfl) (fun u hu hF => ?_) (fun v161 => ?_)
      · have h84_ : (β7 || β8) = false → v160 = (Pt b104 4) := hF.1
        have h80_ : v156 = (Bo (β7 || β8)) := hF.2.1
        clear hF
        obtain rfl := h80_
        refine doesG_g (b := (β7 || β8)) rfl (yld rfl rfl) (fun hg1 => ?_) (fun hc => ⟨fun hg1 => absurd hg1 hc, Ext.refl _⟩)
        obtain rfl := h84_ hg1
        refine (does_fieldAddr (ev rfl) fa37_1).mono ?_; rintro _ _ ⟨rfl, rfl⟩
        exact ⟨fun _ => rfl, Ext.refl _⟩
      refine RW_d _ rfl (fun v => by dsimp only [List.set]; try rfl) (fun u hu hF => ?_) (fun v162 => ?_)
      · have h85_ : (β7 || β8) = false → v161 = (Pt b104 5) := hF.1
        have h80_ : v156 = (Bo (β7 || β8)) := hF.2.1
        clear hF
        obtain rfl := h80_
        refine doesG_g (b := (β7 || β8)) rfl (yld rfl rfl) (fun hg1 => ?_) (fun hc => ⟨fun hg1 => absurd hg1 hc, Ext.refl _⟩)
        obtain rfl := h85_ hg1
        refine (does_load (u := (Iv el2.node.a)) (ev rfl) Try.isAgg2 (Cells.at (Blk.cells (hB117.ext hu)) 5 rfl)).mono ?_; rintro _ _ ⟨rfl, rfl⟩
        exact ⟨fun _ => rfl, Ext.refl _⟩
      refine RW_d _ rfl (fun v => by dsimp only [List.set]; try rfl) (fun u hu hF => ?_) (fun v163 => ?_)
      · have h83_ : (β7 || β8) = false → v159 = (Iv el1.node.a) := hF.1
        have h86_ : (β7 || β8) = false → v162 = (Iv el2.node.a) := hF.2.1
        have h80_ : v156 = (Bo (β7 || β8)) := hF.2.2.1
        clear hF
        obtain rfl := h80_
        refine doesG_g (b := (β7 || β8)) rfl (yld rfl rfl) (fun hg1 => ?_) (fun hc => ⟨fun hg1 => absurd hg1 hc, Ext.refl _⟩)
        obtain rfl := h83_ hg1
        obtain rfl := h86_ hg1
        refine (does_icmp (p := el1.node.a) (q := el2.node.a) (.inr (.inl rfl)) (ev rfl) (ev rfl)).mono ?_; rintro _ _ ⟨rfl, rfl⟩
        exact ⟨fun _ => (by first | rfl | (show _ = _; simp only [hβ9])), Ext.refl _⟩
      refine RW_d _ rfl (fun v => by dsimp only [List.set]; try rfl) (fun u hu hF => ?_) (fun v164 => ?_)
      · have h80_ : v156 = (Bo (β7 || β8)) := hF.1
        have h87_ : (β7 || β8) = false → v163 = (Bo β9) := hF.2.1
        clear hF
        refine doesG_un rfl ?_
        skip
        obtain rfl := h80_
        refine (does_pick (b := (β7 || β8)) (ev rfl) (ev rfl) (ev rfl)).mono ?_; rintro _ _ ⟨rfl, rfl⟩; refine ⟨?_, Ext.refl _⟩; skip
        cases hbb : (β7 || β8) <;> simp [hbb] at h87_ ⊢
        all_goals (first | rfl | (subst h87_; rfl) | simp_all)
      refine RW_d _ rfl (fun v => by dsimp only [List.set]; try rfl) (fun u hu hF => ?_) (fun v165 => ?_)
      · have h88_ : v164 = (Bo ((β7 || β8) || β9)) := hF.1
        clear hF
        refine doesG_un rfl ?_
        obtain rfl := h88_
        refine (does_move (u := (Bo ((β7 || β8) || β9))) (ev rfl)).mono ?_; rintro _ _ ⟨rfl, rfl⟩
        exact ⟨rfl, Ext.refl _⟩
      refine RW_d _ rfl (fun v => by dsimp only [List.set]; try rfl) (fun u hu hF => ?_) (fun v166 => ?_)
      · have h89_ : v165 = (Bo ((β7 || β8) || β9)) := hF.1
        clear hF
        obtain rfl := h89_
        refine doesG_g (b := ((β7 || β8) || β9)) rfl (yld rfl rfl) (fun hg1 => ?_) (fun hc => ⟨fun hg1 => absurd hg1 hc, Ext.refl _⟩)
        refine (does_fieldAddr (ev rfl) fa43_4).mono ?_; rintro _ _ ⟨rfl, rfl⟩
        exact ⟨fun _ => rfl, Ext.refl _⟩
      refine RW_d _ rfl (fun v => by dsimp only [List.set]; try rfl) (fun u hu hF => ?_) (fun v167 => ?_)
      · have h90_ : ((β7 || β8) || β9) = false → v166 = (Pt b80 4) := hF.1
        have h89_ : v165 = (Bo ((β7 || β8) || β9)) := hF.2.1
        clear hF
        obtain rfl := h89_
        refine doesG_g (b := ((β7 || β8) || β9)) rfl (yld rfl rfl) (fun hg1 => ?_) (fun hc => ⟨fun hg1 => absurd hg1 hc, Ext.refl _⟩)
        obtain rfl := h90_ hg1
        refine (does_fieldAddr (ev rfl) fa37_2).mono ?_; rintro _ _ ⟨rfl, rfl⟩
        exact ⟨fun _ => rfl, Ext.refl _⟩
      refine RW_d _ rfl (fun v => by dsimp only [List.set]; try rfl) (fun u hu hF => ?_) (fun v168 => ?_)
      · have h91_ : ((β7 || β8) || β9) = false → v167 = (Pt b80 6) := hF.1
        have h89_ : v165 = (Bo ((β7 || β8) || β9)) := hF.2.1
        clear hF
        obtain rfl := h89_
        refine doesG_g (b := ((β7 || β8) || β9)) rfl (yld rfl rfl) (fun hg1 => ?_) (fun hc => ⟨fun hg1 => absurd hg1 hc, Ext.refl _⟩)
        obtain rfl := h91_ hg1
        refine (does_load (u := (Iv el1.node.b)) (ev rfl) Try.isAgg2 (Cells.at (Blk.cells (((hB91.ext E107).wr W116 (Nat.ne_of_lt n112)).ext hu)) 6 rfl)).mono ?_; rintro _ _ ⟨rfl, rfl⟩
        exact ⟨fun _ => rfl, Ext.refl _⟩
      refine RW_d _ rfl (fun v => by dsimp only [List.set]; try rfl) (fun u hu hF => ?_) (fun v169 => ?_)
      · have h89_ : v165 = (Bo ((β7 || β8) || β9)) := hF.1
        clear hF
        obtain rfl := h89_
        refine doesG_g (b := ((β7 || β8) || β9)) rfl (yld rfl rfl) (fun hg1 => ?_) (fun hc => ⟨fun hg1 => absurd hg1 hc, Ext.refl _⟩)
        refine (does_fieldAddr (ev rfl) fa43_4).mono ?_; rintro _ _ ⟨rfl, rfl⟩
        exact ⟨fun _ => rfl, Ext.refl _⟩
      refine RW_d _ rfl (fun v => by dsimp only [List.set]; try rfl) (fun u hu hF => ?_) (fun v170 => ?_)
      · have h93_ : ((β7 || β8) || β9) = false → v169 = (Pt b104 4) := hF.1
        have h89_ : v165 = (Bo ((β7 || β8) || β9)) := hF.2.1
        clear hF
        obtain rfl := h89_
        refine doesG_g (b := ((β7 || β8) || β9)) rfl (yld rfl rfl) (fun hg1 => ?_) (fun hc => ⟨fun hg1 => absurd hg1 hc, Ext.refl _⟩)
        obtain rfl := h93_ hg1
        refine (does_fieldAddr (ev rfl) fa37_2).mono ?_; rintro _ _ ⟨rfl, rfl⟩
        exact ⟨fun _ => rfl, Ext.refl _⟩
      refine RW_d _ rfl (fun v => by dsimp only [List.set]; try rfl) (fun u hu hF => ?_) (fun v171 => ?_)
      · have h94_ : ((β7 || β8) || β9) = false → v170 = (Pt b104 6) := hF.1
        have h89_ : v165 = (Bo ((β7 || β8) || β9)) := hF.2.1
        clear hF
        obtain rfl := h89_
        refine doesG_g (b := ((β7 || β8) || β9)) rfl (yld rfl rfl) (fun hg1 => ?_) (fun hc => ⟨fun hg1 => absurd hg1 hc, Ext.refl _⟩)
        obtain rfl := h94_ hg1
        refine (does_load (u := (Iv el2.node.b)) (ev rfl) Try.isAgg2 (Cells.at (Blk.cells (hB117.ext hu)) 6 rfl)).mono ?_; rintro _ _ ⟨rfl, rfl⟩
        exact ⟨fun _ => rfl, Ext.refl _⟩
      refine RW_d _ rfl (fun v => by dsimp only [List.set]; try rfl) (fun u hu hF => ?_) (fun v172 => ?_)
      · have h92_ : ((β7 || β8) || β9) = false → v168 = (Iv el1.node.b) := hF.1
        have h95_ : ((β7 || β8) || β9) = false → v171 = (Iv el2.node.b) := hF.2.1
        have h89_ : v165 = (Bo ((β7 || β8) || β9)) := hF.2.2.1
        clear hF
        obtain rfl := h89_
        refine doesG_g (b := ((β7 || β8) || β9)) rfl (yld rfl rfl) (fun hg1 => ?_) (fun hc => ⟨fun hg1 => absurd hg1 hc, Ext.refl _⟩)
        obtain rfl := h92_ hg1
        obtain rfl := h95_ hg1
        refine (does_icmp (p := el1.node.b) (q := el2.node.b) (.inr (.inl rfl)) (ev rfl) (ev rfl)).mono ?_; rintro _ _ ⟨rfl, rfl⟩
        exact ⟨fun _ => (by first | rfl | (show _ = _; simp only [hβ10])), Ext.refl _⟩
      refine RW_d _ rfl (fun v => by dsimp only [List.set]; try rfl) (fun u hu hF => ?_) (fun v173 => ?_)
      · have h89_ : v165 = (Bo ((β7 || β8) || β9)) := hF.1
        have h96_ : ((β7 || β8) || β9) = false → v172 = (Bo β10) := hF.2.1
        clear hF
        refine doesG_un rfl ?_
        skip
        obtain rfl := h89_
        refine (does_pick (b := ((β7 || β8) || β9)) (ev rfl) (ev rfl) (ev rfl)).mono ?_; rintro _ _ ⟨rfl, rfl⟩; refine ⟨?_, Ext.refl _⟩; rw [hβ11]; skip
        cases hbb : ((β7 || β8) || β9) <;> simp [hbb] at h96_ ⊢
        all_goals (first | rfl | (subst h96_; rfl) | simp_all)
      refine RW_d _ rfl (fun v => by dsimp only [List.set]; try rfl) (fun u hu hF => ?_) (fun v174 => ?_)
      · have h97_ : v173 = (Bo β11) := hF.1
        clear hF
        refine doesG_un rfl ?_
        obtain rfl := h97_
        refine (does_move (u := (Bo β11)) (ev rfl)).mono ?_; rintro _ _ ⟨rfl, rfl⟩
        exact ⟨rfl, Ext.refl _⟩
      refine RW_d _ rfl (fun v => by dsimp only [List.set]; try rfl) (fun u hu hF => ?_) (fun v175 => ?_)
      · have h98_ : v174 = (Bo β11) := hF.1
        clear hF
        obtain rfl := h98_
        refine doesG_g (b := β11) rfl (yld rfl rfl) (fun hg1 => ?_) (fun hc => ⟨fun hg1 => absurd hg1 hc, Ext.refl _⟩)
        refine (does_fieldAddr (ev rfl) fa43_4).mono ?_; rintro _ _ ⟨rfl, rfl⟩
        exact ⟨fun _ => rfl, Ext.refl _⟩
      refine RW_d _ rfl (fun v => by dsimp only [List.set]; try rfl) (fun u hu hF => ?_) (fun v176 => ?_)
      · have h99_ : β11 = false → v175 = (Pt b80 4) := hF.1
        have h98_ : v174 = (Bo β11) := hF.2.1
        clear hF
        obtain rfl := h98_
        refine doesG_g (b := β11) rfl (yld rfl rfl) (fun hg1 => ?_) (fun hc => ⟨fun hg1 => absurd hg1 hc, Ext.refl _⟩)
        obtain rfl := h99_ hg1
        refine (does_fieldAddr (ev rfl) fa37_3).mono ?_; rintro _ _ ⟨rfl, rfl⟩
        exact ⟨fun _ => rfl, Ext.refl _⟩
      refine RW_d _ rfl (fun v => by dsimp only [List.set]; try rfl) (fun u hu hF => ?_) (fun v177 => ?_)
      · have h100_ : β11 = false → v176 = (Pt b80 7) := hF.1
        have h98_ : v174 = (Bo β11) := hF.2.1
        clear hF
        obtain rfl := h98_
        refine doesG_g (b := β11) rfl (yld rfl rfl) (fun hg1 => ?_) (fun hc => ⟨fun hg1 => absurd hg1 hc, Ext.refl _⟩)
        obtain rfl := h100_ hg1
        refine (does_load (u := (.slice p77 el1.node.nums.length q78)) (ev rfl) Try.isAgg32 (Cells.at (Blk.cells (((hB91.ext E107).wr W116 (Nat.ne_of_lt n112)).ext hu)) 7 rfl)).mono ?_; rintro _ _ ⟨rfl, rfl⟩
        exact ⟨fun _ => rfl, Ext.refl _⟩
      refine RW_d _ rfl (fun v => by dsimp only [List.set]; try rfl) (fun u hu hF => ?_) (fun v178 => ?_)
      · have h98_ : v174 = (Bo β11) := hF.1
        clear hF
        obtain rfl := h98_
        refine doesG_g (b := β11) rfl (yld rfl rfl) (fun hg1 => ?_) (fun hc => ⟨fun hg1 => absurd hg1 hc, Ext.refl _⟩)
        refine (does_fieldAddr (ev rfl) fa43_4).mono ?_; rintro _ _ ⟨rfl, rfl⟩
        exact ⟨fun _ => rfl, Ext.refl _⟩
      refine RW_d _ rfl (fun v => by dsimp only [List.set]; try rfl) (fun u hu hF => ?_) (fun v179 => ?_)
      · have h102_ : β11 = false → v178 = (Pt b104 4) := hF.1
        have h98_ : v174 = (Bo β11) := hF.2.1
        clear hF
        obtain rfl := h98_
        refine doesG_g (b := β11) rfl (yld rfl rfl) (fun hg1 => ?_) (fun hc => ⟨fun hg1 => absurd hg1 hc, Ext.refl _⟩)
        obtain rfl := h102_ hg1
        refine (does_fieldAddr (ev rfl) fa37_3).mono ?_; rintro _ _ ⟨rfl, rfl⟩
        exact ⟨fun _ => rfl, Ext.refl _⟩
      refine RW_d _ rfl (fun v => by dsimp only [List.set]; try rfl) (fun u hu hF => ?_) (fun v180 => ?_)
      · have h103_ : β11 = false → v179 = (Pt b104 7) := hF.1
        have h98_ : v174 = (Bo β11) := hF.2.1
        clear hF
        obtain rfl := h98_
        refine doesG_g (b := β11) rfl (yld rfl rfl) (fun hg1 => ?_) (fun hc => ⟨fun hg1 => absurd hg1 hc, Ext.refl _⟩)
        obtain rfl := h103_ hg1
        refine (does_load (u := (.slice p101 el2.node.nums.length q102)) (ev rfl) Try.isAgg32 (Cells.at (Blk.cells (hB117.ext hu)) 7 rfl)).mono ?_; rintro _ _ ⟨rfl, rfl⟩
        exact ⟨fun _ => rfl, Ext.refl _⟩
      refine RW_d _ rfl (fun v => by dsimp only [List.set]; try rfl) (fun u hu hF => ?_) (fun v181 => ?_)
      · have h101_ : β11 = false → v177 = (.slice p77 el1.node.nums.length q78) := hF.1
        have h104_ : β11 = false → v180 = (.slice p101 el2.node.nums.length q102) := hF.2.1
        have h98_ : v174 = (Bo β11) := hF.2.2.1
        clear hF
        obtain rfl := h98_
        refine doesG_g (b := β11) rfl (yld rfl rfl) (fun hg1 => ?_) (fun hc => ⟨fun hg1 => absurd hg1 hc, Ext.refl _⟩)
        obtain rfl := h101_ hg1
        obtain rfl := h104_ hg1
        refine (does_call (args := #[(.slice p77 el1.node.nums.length q78), (.slice p101 el2.node.nums.length q102)]) cal16 (evs rfl) (c_spec_l01SameAll (.slice p77 el1.node.nums.length q78) el1.node.nums (.slice p101 el2.node.nums.length q102) el2.node.nums _ (Sl.ext (Sl.ext hs79 RF.mono (Below.wr (Ext.gr (Below.wr (Ext.gr (Ext.refl _) E83) W90 (Nat.le_trans (Below.size (Ext.refl _)) hb81)) E107) W116 (Nat.le_trans (Below.size (Below.wr (Ext.gr (Ext.refl _) E83) W90 (Nat.le_trans (Below.size (Ext.refl _)) hb81))) hb105))) RF.mono hu) (Sl.ext (Sl.ext hs103 RF.mono (Below.wr (Ext.gr (Ext.refl _) E107) W116 (Nat.le_trans (Below.size (Ext.refl _)) hb105))) RF.mono hu))).mono ?_; rintro v u' ⟨hx, hv⟩
        exact ⟨fun _ => hv.trans (by simp only [hβ12]), hx⟩
      refine RW_d _ rfl (fun v => by dsimp only [List.set]; try rfl) (fun u hu hF => ?_) (fun v182 => ?_)
      · have h105_ : β11 = false → v181 = (Bo β12) := hF.1
        have h98_ : v174 = (Bo β11) := hF.2.1
        clear hF
        obtain rfl := h98_
        refine doesG_g (b := β11) rfl (yld rfl rfl) (fun hg1 => ?_) (fun hc => ⟨fun hg1 => absurd hg1 hc, Ext.refl _⟩)
        obtain rfl := h105_ hg1
        refine (does_not (ev rfl)).mono ?_; rintro _ _ ⟨rfl, rfl⟩
        exact ⟨fun _ => rfl, Ext.refl _⟩
      refine RW_d _ rfl (fun v => by dsimp only [List.set]; try rfl) (fun u hu hF => ?_) (fun v183 => ?_)
      · have h98_ : v174 = (Bo β11) := hF.1
        have h106_ : β11 = false → v182 = (Bo (!β12)) := hF.2.1
        clear hF
        refine doesG_un rfl ?_
        skip
        obtain rfl := h98_
        refine (does_pick (b := β11) (ev rfl) (ev rfl) (ev rfl)).mono ?_; rintro _ _ ⟨rfl, rfl⟩; refine ⟨?_, Ext.refl _⟩; skip
        cases hbb : β11 <;> simp [hbb] at h106_ ⊢
        all_goals (first | rfl | (subst h106_; rfl) | simp_all)
      refine RW_fin ?_; intro w184 E185 hP186
      obtain ⟨⟨⟨⟨⟨⟨⟨⟨⟨⟨⟨⟨⟨⟨⟨⟨⟨⟨⟨⟨⟨⟨⟨⟨⟨⟨⟨⟨⟨⟨⟨⟨⟨⟨⟨⟨⟨⟨⟨⟨⟨⟨⟨⟨⟨⟨⟨⟨⟨⟨⟨⟨⟨⟨⟨⟨⟨⟨⟨⟨⟨⟨⟨-, -⟩, -⟩, -⟩, -⟩, -⟩, -⟩, -⟩, -⟩, -⟩, -⟩, -⟩, -⟩, -⟩, -⟩, -⟩, -⟩, -⟩, -⟩, -⟩, -⟩, -⟩, -⟩, -⟩, -⟩, -⟩, -⟩, -⟩, -⟩, -⟩, -⟩, -⟩, -⟩, -⟩, -⟩, -⟩, -⟩, -⟩, -⟩, -⟩, -⟩, -⟩, -⟩, -⟩, -⟩, -⟩, -⟩, -⟩, -⟩, -⟩, -⟩, -⟩, -⟩, -⟩, -⟩, -⟩, -⟩, -⟩, -⟩, -⟩, -⟩, -⟩, -⟩, q187⟩ := hP186
      have X188 := Ext.gr X119 E185
      have q187 : v183 = (Bo (β11 || (!β12))) := q187
      obtain rfl := q187
      show wpList _ _ _ _ (fr [(.agg #[(Iv A_x_.points), (Iv A_x_.values), (.slice p5 A_x_.steps.length q6)]), (.agg #[(Iv A_y_.points), (Iv A_y_.values), (.slice p8 A_y_.steps.length q9)]), (Pt b12 0), (Pt b19 0), (u60 4), (Iv (k : Int)), (Pt b80 0), (Pt b104 0), v29, v30, v31, v32, v33, v34, v35, v36, v37, v38, v39, v40, v41, v42, v43, v44, v45, v46, v47, v48, (Bo ((β1 || β2) || β3)), (Pt b12 2), (.slice p5 A_x_.steps.length q6), (Iv (A_x_.steps.length : Int)), (Iv (k : Int)), (Bo (icmp .lss (k : Int) (A_x_.steps.length : Int))), (Iv (k : Int)), (Pt b12 2), (.slice p5 A_x_.steps.length q6), (Iv (k : Int)), (Pt b71 o72), (.agg #[(Iv el1.kind), (Iv el1.to), (Iv el1.a), (Iv el1.b), (Iv el1.node.kind), (Iv el1.node.a), (Iv el1.node.b), (.slice p77 el1.node.nums.length q78)]), (Pt b19 2), (.slice p8 A_y_.steps.length q9), (Iv (k : Int)), (Pt b95 o96), (.agg #[(Iv el2.kind), (Iv el2.to), (Iv el2.a), (Iv el2.b), (Iv el2.node.kind), (Iv el2.node.a), (Iv el2.node.b), (.slice p101 el2.node.nums.length q102)]), v121, v122, v123, v124, v125, v126, v127, v128, v129, v130, v131, v132, v133, v134, v135, v136, v137, v138, v139, v140, v141, v142, v143, v144, v145, v146, v147, v148, v149, v150, v151, v152, v153, v154, v155, v156, v157, v158, v159, v160, v161, v162, v163, v164, v165, v166, v167, v168, v169, v170, v171, v172, v173, v174, v175, v176, v177, v178, v179, v180, v181, v182, (Bo (β11 || (!β12))), (u60 108)]) _
      refine wpList_nil (hK120 _ _ ?_)
      refine wp_cond_split (t := β11 || (!β12)) (ev rfl) (fun c189 => ?_) (fun c189 => ?_)
      · have c189' := c189
        (try simp only [hβ1, hβ2, hβ3, hβ4, hβ5, hβ6, hβ7, hβ8, hβ9, hβ10, hβ11, hβ12] at c189')
        (try simp only [icmp, Bool.and_eq_true, Bool.or_eq_true, Bool.and_eq_false_iff, Bool.or_eq_false_iff, Bool.not_eq_true', Bool.not_eq_false', decide_eq_true_eq, decide_eq_false_iff_not, beq_iff_eq, bne_iff_ne, beq_eq_false_iff_ne, bne_eq_false_iff_eq] at c189')
        refine wp_seq_k fun K190 hK190 => ?_
        refine wp_region_lit ?_
        refine q_is rfl rfl (does_assign (u := (Bo false)) (ev rfl)) (by dsimp only [List.set]; try rfl) ?_
        refine wpList_nil (hK190 _ _ ?_)
        refine wp_ret ?_
        dsimp only [Exit.then, Exit.inBlock]
        refine ret_val (v := (Bo false)) (res_T rfl (slot rfl)) X188 ?_
        try simp only [hβ1, hβ2, hβ3, hel1, hel2, hβ4, hβ5, hβ6, hβ7, hβ8, hβ9, hβ10, hβ11, hβ12] at c55 c67 c189
        have x191 : (sProg sBits A_x_ A_y_) = false := by first | exact sProg_f (by assumption) | exact sProg_bad (by assumption) (by assumption) (by assumption) (sStep_f (by assumption)) | exact sProg_ok (by assumption) (by assumption) hs
        exact (by first | rfl | rw [x191])
      have c189' := c189
      (try simp only [hβ1, hβ2, hβ3, hβ4, hβ5, hβ6, hβ7, hβ8, hβ9, hβ10, hβ11, hβ12] at c189')
      (try simp only [icmp, Bool.and_eq_true, Bool.or_eq_true, Bool.and_eq_false_iff, Bool.or_eq_false_iff, Bool.not_eq_true', Bool.not_eq_false', decide_eq_true_eq, decide_eq_false_iff_not, beq_iff_eq, bne_iff_ne, beq_eq_false_iff_ne, bne_eq_false_iff_eq] at c189')
      refine wp_skip (hK68 _ _ ?_)
      refine wp_region_lit ?_
      refine q_is rfl rfl (does_iarith (p := (k : Int)) (q := 1) (r := (k : Int) + 1) (ev rfl) (ev rfl) (.inl ⟨rfl, (in_i64 (by omega) (by omega)).symm⟩)) (by dsimp only [List.set]; try rfl) ?_
      refine q_is rfl rfl (does_move (u := (Iv ((k : Int) + 1))) (ev rfl)) (by dsimp only [List.set]; try rfl) ?_
      refine wpList_nil ?_
      refine ⟨k + 1, ⟨fun t => (([(.agg #[(Iv A_x_.points), (Iv A_x_.values), (.slice p5 A_x_.steps.length q6)]), (.agg #[(Iv A_y_.points), (Iv A_y_.values), (.slice p8 A_y_.steps.length q9)]), (Pt b12 0), (Pt b19 0), (u60 4), (Iv (k : Int)), (Pt b80 0), (Pt b104 0), v29, v30, v31, v32, v33, v34, v35, v36, v37, v38, v39, v40, v41, v42, v43, v44, v45, v46, v47, v48, (Bo ((β1 || β2) || β3)), (Pt b12 2), (.slice p5 A_x_.steps.length q6), (Iv (A_x_.steps.length : Int)), (Iv ((k : Int) + 1)), (Bo (icmp .lss (k : Int) (A_x_.steps.length : Int))), (Iv (k : Int)), (Pt b12 2), (.slice p5 A_x_.steps.length q6), (Iv (k : Int)), (Pt b71 o72), (.agg #[(Iv el1.kind), (Iv el1.to), (Iv el1.a), (Iv el1.b), (Iv el1.node.kind), (Iv el1.node.a), (Iv el1.node.b), (.slice p77 el1.node.nums.length q78)]), (Pt b19 2), (.slice p8 A_y_.steps.length q9), (Iv (k : Int)), (Pt b95 o96), (.agg #[(Iv el2.kind), (Iv el2.to), (Iv el2.a), (Iv el2.b), (Iv el2.node.kind), (Iv el2.node.a), (Iv el2.node.b), (.slice p101 el2.node.nums.length q102)]), v121, v122, v123, v124, v125, v126, v127, v128, v129, v130, v131, v132, v133, v134, v135, v136, v137, v138, v139, v140, v141, v142, v143, v144, v145, v146, v147, v148, v149, v150, v151, v152, v153, v154, v155, v156, v157, v158, v159, v160, v161, v162, v163, v164, v165, v166, v167, v168, v169, v170, v171, v172, v173, v174, v175, v176, v177, v178, v179, v180, v181, v182, (Bo (β11 || (!β12))), (Iv ((k : Int) + 1))] : List Value)[t]?).getD undef, ?_, (Ext.gr (Below.kl (Ext.gr (Below.kl (Ext.gr E62 E83) (KpL.of_wr W90) (allS (Nat.le_trans E62.size hb81) all0) (Nat.le_refl _)) E107) (KpL.of_wr W116) (allS (Nat.le_trans (Below.kl (Ext.gr E62 E83) (KpL.of_wr W90) (allS (Nat.le_trans E62.size hb81) all0) (Nat.le_refl _)).size hb105) all0) (Nat.le_refl _)) E185), ?_⟩, ?_⟩
      · first | rfl | (simp only [Nat.cast_add, Nat.cast_one, Int.natCast_add, Int.natCast_one]; rfl)
      · exact ⟨by omega, SameXTo.step hs (by assumption) (by assumption) (sStep_t (by assumption))⟩
      · omega
    have c67' := c67
    (try simp only [hβ1, hβ2, hβ3] at c67')
    (try simp only [icmp, Bool.and_eq_true, Bool.or_eq_true, Bool.and_eq_false_iff, Bool.or_eq_false_iff, Bool.not_eq_true', Bool.not_eq_false', decide_eq_true_eq, decide_eq_false_iff_not, beq_iff_eq, bne_iff_ne, beq_eq_false_iff_ne, bne_eq_false_iff_eq] at c67')
    refine wp_exit ?_
    refine hK58 _ _ ?_
    refine wp_seq_k fun K192 hK192 => ?_
    refine wp_region_lit ?_
    refine q_is rfl rfl (does_assign (u := (Bo true)) (ev rfl)) (by dsimp only [List.set]; try rfl) ?_
    refine wpList_nil (hK192 _ _ ?_)
    refine wp_ret ?_
    refine ret_val (v := (Bo true)) (res_T rfl (slot rfl)) X64 ?_
    try simp only [hβ1, hβ2, hβ3] at c55 c67
    have x193 : (sProg sBits A_x_ A_y_) = true := by first | exact sProg_f (by assumption) | exact sProg_bad (by assumption) (by assumption) (by assumption) (sStep_f (by assumption)) | exact sProg_ok (by assumption) (by assumption) hs
    exact (by first | rfl | rw [x193])

/- laws.toFloat32S -/
theorem c_laws_toFloat32S (a : Value) (L_a : List Nat) (w : World) (hv_a : Sl RF 1 w a L_a) (hsz : L_a.length ≤ 1048576) : Gives Try.prog 24 #[a] w (fun v w' => ∃ y_1 : Value, v = y_1 ∧ Hang w.heap.size w' (fun u => Sl RF 1 u y_1 L_a)) := by
  have hlen_a := Sl.len hv_a; obtain ⟨p_a, q_a, rfl⟩ := Sl.shape hv_a
  refine enter [(.slice p_a L_a.length q_a), Ud, Ud, Ud, Ud, Ud, Ud, Ud, Ud, Ud, Ud, Ud, Ud, Ud, Ud, Ud, Ud, Ud, Ud, Ud, Ud, Ud] Try.func24 rfl Try.ntmps24 rfl ?_
  refine wp_seq_k fun K1 hK1 => ?_
  refine wp_region_lit ?_
  refine q_is (l' := [(.slice p_a L_a.length q_a), Ud, (.slice none 0 0), Ud, Ud, Ud, Ud, Ud, Ud, Ud, Ud, Ud, Ud, Ud, Ud, Ud, Ud, Ud, Ud, Ud, Ud, Ud]) rfl rfl (does_assign (u := (.slice none 0 0)) (ev rfl)) rfl ?_
  refine wpList_nil (hK1 _ _ ?_)
  refine wp_seq_k fun K2 hK2 => ?_
  refine wp_region_lit ?_
  refine q_is (l' := [(.slice p_a L_a.length q_a), Ud, (.slice none 0 0), Ud, Ud, (.slice p_a L_a.length q_a), Ud, Ud, Ud, Ud, Ud, Ud, Ud, Ud, Ud, Ud, Ud, Ud, Ud, Ud, Ud, Ud]) rfl rfl (does_move (u := (.slice p_a L_a.length q_a)) (ev rfl)) rfl ?_
  refine q_is (l' := [(.slice p_a L_a.length q_a), Ud, (.slice none 0 0), Ud, Ud, (.slice p_a L_a.length q_a), (Iv (L_a.length : Int)), Ud, Ud, Ud, Ud, Ud, Ud, Ud, Ud, Ud, Ud, Ud, Ud, Ud, Ud, Ud]) rfl rfl (does_len_slice Try.underlying32 (ev rfl)) rfl ?_
  refine seqd rfl rfl (does_makeSlice (n := L_a.length) Try.underlying32 inf59 (ev rfl) (ev rfl) (by omega)) ?_; rintro _ w7 ⟨b3, rfl, hb4, ⟨cs8, hB5, hl9, hz10⟩, E6⟩
  have g11 : w.heap.size ≤ b3 := Nat.le_trans (Below.size (Ext.refl w)) hb4
  have X12 := Ext.gr (Ext.refl w) E6
  show wpList _ _ _ _ (fr [(.slice p_a L_a.length q_a), Ud, (.slice none 0 0), Ud, Ud, (.slice p_a L_a.length q_a), (Iv (L_a.length : Int)), (.slice (some ⟨b3, 0, none⟩) L_a.length L_a.length), Ud, Ud, Ud, Ud, Ud, Ud, Ud, Ud, Ud, Ud, Ud, Ud, Ud, Ud]) _
  refine q_is (l' := [(.slice p_a L_a.length q_a), Ud, (.slice none 0 0), (.slice (some ⟨b3, 0, none⟩) L_a.length L_a.length), Ud, (.slice p_a L_a.length q_a), (Iv (L_a.length : Int)), (.slice (some ⟨b3, 0, none⟩) L_a.length L_a.length), Ud, Ud, Ud, Ud, Ud, Ud, Ud, Ud, Ud, Ud, Ud, Ud, Ud, Ud]) rfl rfl (does_assign (u := (.slice (some ⟨b3, 0, none⟩) L_a.length L_a.length)) (ev rfl)) rfl ?_
  refine wpList_nil (hK2 _ _ ?_)
  refine wp_seq_k fun K13 hK13 => ?_
  refine wp_seq_k fun K14 hK14 => ?_
  refine wp_region_lit ?_
  refine q_is (l' := [(.slice p_a L_a.length q_a), Ud, (.slice none 0 0), (.slice (some ⟨b3, 0, none⟩) L_a.length L_a.length), (Iv 0), (.slice p_a L_a.length q_a), (Iv (L_a.length : Int)), (.slice (some ⟨b3, 0, none⟩) L_a.length L_a.length), Ud, Ud, Ud, Ud, Ud, Ud, Ud, Ud, Ud, Ud, Ud, Ud, Ud, Ud]) rfl rfl (does_assign (u := (Iv 0)) (ev rfl)) rfl ?_
  refine wpList_nil (hK14 _ _ ?_)
  refine wp_block ?_
  have hF0 : Fill RF 1 w7 b3 L_a.length L_a 0 := Fill.zero hB5 hl9
  refine loop_ghost (σ := Nat) (fun k a w' => ∃ u15 : Nat → Value, a = fr [(.slice p_a L_a.length q_a), Ud, (.slice none 0 0), (.slice (some ⟨b3, 0, none⟩) L_a.length L_a.length), (Iv (k : Int)), (.slice p_a L_a.length q_a), (Iv (L_a.length : Int)), (.slice (some ⟨b3, 0, none⟩) L_a.length L_a.length), (u15 8), (u15 9), (u15 10), (u15 11), (u15 12), (u15 13), (u15 14), (u15 15), (u15 16), (u15 17), (u15 18), (u15 19), (u15 20), Ud] ∧ KpL [b3] w7 w' ∧ Fill RF 1 w' b3 L_a.length L_a k ∧ (k ≤ L_a.length)) (fun k => L_a.length - k) 0 ?_ ?_
  · refine ⟨fun t => (([(.slice p_a L_a.length q_a), Ud, (.slice none 0 0), (.slice (some ⟨b3, 0, none⟩) L_a.length L_a.length), (Iv 0), (.slice p_a L_a.length q_a), (Iv (L_a.length : Int)), (.slice (some ⟨b3, 0, none⟩) L_a.length L_a.length), Ud, Ud, Ud, Ud, Ud, Ud, Ud, Ud, Ud, Ud, Ud, Ud, Ud, Ud] : List Value)[t]?).getD undef, rfl, KpL.refl _ _, hF0, ?_⟩
    exact Nat.zero_le _
  · rintro k a w16 ⟨u15, rfl, E17, hF18, hk⟩
    have X19 := Below.kl X12 E17 (allS g11 all0) (Nat.le_refl _)
    refine wp_seq_k fun K20 hK20 => ?_
    refine wp_seq_k fun K21 hK21 => ?_
    refine wp_region_lit ?_
    refine q_is (l' := [(.slice p_a L_a.length q_a), Ud, (.slice none 0 0), (.slice (some ⟨b3, 0, none⟩) L_a.length L_a.length), (Iv (k : Int)), (.slice p_a L_a.length q_a), (Iv (L_a.length : Int)), (.slice (some ⟨b3, 0, none⟩) L_a.length L_a.length), (Iv (k : Int)), (u15 9), (u15 10), (u15 11), (u15 12), (u15 13), (u15 14), (u15 15), (u15 16), (u15 17), (u15 18), (u15 19), (u15 20), Ud]) rfl rfl (does_move (u := (Iv (k : Int))) (ev rfl)) rfl ?_
    refine q_is (l' := [(.slice p_a L_a.length q_a), Ud, (.slice none 0 0), (.slice (some ⟨b3, 0, none⟩) L_a.length L_a.length), (Iv (k : Int)), (.slice p_a L_a.length q_a), (Iv (L_a.length : Int)), (.slice (some ⟨b3, 0, none⟩) L_a.length L_a.length), (Iv (k : Int)), (.slice p_a L_a.length q_a), (u15 10), (u15 11), (u15 12), (u15 13), (u15 14), (u15 15), (u15 16), (u15 17), (u15 18), (u15 19), (u15 20), Ud]) rfl rfl (does_move (u := (.slice p_a L_a.length q_a)) (ev rfl)) rfl ?_
    refine q_is (l' := [(.slice p_a L_a.length q_a), Ud, (.slice none 0 0), (.slice (some ⟨b3, 0, none⟩) L_a.length L_a.length), (Iv (k : Int)), (.slice p_a L_a.length q_a), (Iv (L_a.length : Int)), (.slice (some ⟨b3, 0, none⟩) L_a.length L_a.length), (Iv (k : Int)), (.slice p_a L_a.length q_a), (Iv (L_a.length : Int)), (u15 11), (u15 12), (u15 13), (u15 14), (u15 15), (u15 16), (u15 17), (u15 18), (u15 19), (u15 20), Ud]) rfl rfl (does_len_slice Try.underlying32 (ev rfl)) rfl ?_
    refine q_is (l' := [(.slice p_a L_a.length q_a), Ud, (.slice none 0 0), (.slice (some ⟨b3, 0, none⟩) L_a.length L_a.length), (Iv (k : Int)), (.slice p_a L_a.length q_a), (Iv (L_a.length : Int)), (.slice (some ⟨b3, 0, none⟩) L_a.length L_a.length), (Iv (k : Int)), (.slice p_a L_a.length q_a), (Iv (L_a.length : Int)), (Bo (icmp .lss (k : Int) (L_a.length : Int))), (u15 12), (u15 13), (u15 14), (u15 15), (u15 16), (u15 17), (u15 18), (u15 19), (u15 20), Ud]) rfl rfl (does_icmp (p := (k : Int)) (q := (L_a.length : Int)) (.inr (.inr (.inl rfl))) (ev rfl) (ev rfl)) rfl ?_
    refine wpList_nil (hK21 _ _ ?_)
    refine wp_cond_split (t := icmp .lss (k : Int) (L_a.length : Int)) (ev rfl) (fun c22 => ?_) (fun c22 => ?_)
    · have c22' := c22
      (try simp only [icmp, Bool.and_eq_true, Bool.or_eq_true, Bool.and_eq_false_iff, Bool.or_eq_false_iff, Bool.not_eq_true', Bool.not_eq_false', decide_eq_true_eq, decide_eq_false_iff_not, beq_iff_eq, bne_iff_ne, beq_eq_false_iff_ne, bne_eq_false_iff_eq] at c22')
      refine wp_skip (hK20 _ _ ?_)
      refine wp_seq_k fun K23 hK23 => ?_
      refine wp_block ?_
      refine wp_region_lit ?_
      refine q_is (l' := [(.slice p_a L_a.length q_a), Ud, (.slice none 0 0), (.slice (some ⟨b3, 0, none⟩) L_a.length L_a.length), (Iv (k : Int)), (.slice p_a L_a.length q_a), (Iv (L_a.length : Int)), (.slice (some ⟨b3, 0, none⟩) L_a.length L_a.length), (Iv (k : Int)), (.slice p_a L_a.length q_a), (Iv (L_a.length : Int)), (Bo (icmp .lss (k : Int) (L_a.length : Int))), (u15 12), (u15 13), (.slice (some ⟨b3, 0, none⟩) L_a.length L_a.length), (u15 15), (u15 16), (u15 17), (u15 18), (u15 19), (u15 20), Ud]) rfl rfl (does_move (u := (.slice (some ⟨b3, 0, none⟩) L_a.length L_a.length)) (ev rfl)) rfl ?_
      refine q_is (l' := [(.slice p_a L_a.length q_a), Ud, (.slice none 0 0), (.slice (some ⟨b3, 0, none⟩) L_a.length L_a.length), (Iv (k : Int)), (.slice p_a L_a.length q_a), (Iv (L_a.length : Int)), (.slice (some ⟨b3, 0, none⟩) L_a.length L_a.length), (Iv (k : Int)), (.slice p_a L_a.length q_a), (Iv (L_a.length : Int)), (Bo (icmp .lss (k : Int) (L_a.length : Int))), (u15 12), (u15 13), (.slice (some ⟨b3, 0, none⟩) L_a.length L_a.length), (Iv (k : Int)), (u15 16), (u15 17), (u15 18), (u15 19), (u15 20), Ud]) rfl rfl (does_move (u := (Iv (k : Int))) (ev rfl)) rfl ?_
      refine q_is (l' := [(.slice p_a L_a.length q_a), Ud, (.slice none 0 0), (.slice (some ⟨b3, 0, none⟩) L_a.length L_a.length), (Iv (k : Int)), (.slice p_a L_a.length q_a), (Iv (L_a.length : Int)), (.slice (some ⟨b3, 0, none⟩) L_a.length L_a.length), (Iv (k : Int)), (.slice p_a L_a.length q_a), (Iv (L_a.length : Int)), (Bo (icmp .lss (k : Int) (L_a.length : Int))), (u15 12), (u15 13), (.slice (some ⟨b3, 0, none⟩) L_a.length L_a.length), (Iv (k : Int)), (.slice p_a L_a.length q_a), (u15 17), (u15 18), (u15 19), (u15 20), Ud]) rfl rfl (does_move (u := (.slice p_a L_a.length q_a)) (ev rfl)) rfl ?_
      refine q_is (l' := [(.slice p_a L_a.length q_a), Ud, (.slice none 0 0), (.slice (some ⟨b3, 0, none⟩) L_a.length L_a.length), (Iv (k : Int)), (.slice p_a L_a.length q_a), (Iv (L_a.length : Int)), (.slice (some ⟨b3, 0, none⟩) L_a.length L_a.length), (Iv (k : Int)), (.slice p_a L_a.length q_a), (Iv (L_a.length : Int)), (Bo (icmp .lss (k : Int) (L_a.length : Int))), (u15 12), (u15 13), (.slice (some ⟨b3, 0, none⟩) L_a.length L_a.length), (Iv (k : Int)), (.slice p_a L_a.length q_a), (Iv (k : Int)), (u15 18), (u15 19), (u15 20), Ud]) rfl rfl (does_move (u := (Iv (k : Int))) (ev rfl)) rfl ?_
      obtain ⟨el1, hel1⟩ : ∃ e, L_a[k]? = some e := ⟨_, List.getElem?_eq_getElem (by omega)⟩
      refine seqd rfl rfl (does_indexSl (R := RF) (i := (k : Int)) (xs := L_a) (e := el1) Try.underlying32 Try.sizeOf59 (ev rfl) (ev rfl) (Sl.ext hv_a RF.mono X19) (by omega) hel1) ?_; rintro _ w16 ⟨b24, o25, _, rfl, hc27, ⟨r28, rfl, h29⟩, rfl⟩
      show wpList _ _ _ _ (fr [(.slice p_a L_a.length q_a), Ud, (.slice none 0 0), (.slice (some ⟨b3, 0, none⟩) L_a.length L_a.length), (Iv (k : Int)), (.slice p_a L_a.length q_a), (Iv (L_a.length : Int)), (.slice (some ⟨b3, 0, none⟩) L_a.length L_a.length), (Iv (k : Int)), (.slice p_a L_a.length q_a), (Iv (L_a.length : Int)), (Bo (icmp .lss (k : Int) (L_a.length : Int))), (u15 12), (u15 13), (.slice (some ⟨b3, 0, none⟩) L_a.length L_a.length), (Iv (k : Int)), (.slice p_a L_a.length q_a), (Iv (k : Int)), (Pt b24 o25), (u15 19), (u15 20), Ud]) _
      refine q_is (l' := [(.slice p_a L_a.length q_a), Ud, (.slice none 0 0), (.slice (some ⟨b3, 0, none⟩) L_a.length L_a.length), (Iv (k : Int)), (.slice p_a L_a.length q_a), (Iv (L_a.length : Int)), (.slice (some ⟨b3, 0, none⟩) L_a.length L_a.length), (Iv (k : Int)), (.slice p_a L_a.length q_a), (Iv (L_a.length : Int)), (Bo (icmp .lss (k : Int) (L_a.length : Int))), (u15 12), (u15 13), (.slice (some ⟨b3, 0, none⟩) L_a.length L_a.length), (Iv (k : Int)), (.slice p_a L_a.length q_a), (Iv (k : Int)), (Pt b24 o25), (Fl r28), (u15 20), Ud]) rfl rfl (does_load (u := (Fl r28)) (ev rfl) Try.isAgg59 (Cells.at hc27 0 rfl)) rfl ?_
      refine q_is (l' := [(.slice p_a L_a.length q_a), Ud, (.slice none 0 0), (.slice (some ⟨b3, 0, none⟩) L_a.length L_a.length), (Iv (k : Int)), (.slice p_a L_a.length q_a), (Iv (L_a.length : Int)), (.slice (some ⟨b3, 0, none⟩) L_a.length L_a.length), (Iv (k : Int)), (.slice p_a L_a.length q_a), (Iv (L_a.length : Int)), (Bo (icmp .lss (k : Int) (L_a.length : Int))), (u15 12), (u15 13), (.slice (some ⟨b3, 0, none⟩) L_a.length L_a.length), (Iv (k : Int)), (.slice p_a L_a.length q_a), (Iv (k : Int)), (Pt b24 o25), (Fl r28), (Pt b3 (k * 1)), Ud]) rfl rfl (does_indexOwn (b := b3) (n := L_a.length) (i := (k : Int)) Try.underlying32 Try.sizeOf59 (ev rfl) (ev rfl) (by omega) (by omega)) rfl ?_
      refine seqn rfl rfl (does_fill (R := RF) (k := 1) (n := L_a.length) (j := k) (xs := L_a) (u := (Fl r28)) (e := el1) (ev rfl) (ev rfl) Try.sizeOf59 rfl rfl hF18 (by omega) hel1 (fun _ => ⟨_, rfl, h29⟩) (fun _ _ _ _ h => h)) ?_; rintro _ w32 ⟨rfl, W30, hF31⟩
      have X33 := Below.wr X19 W30 g11
      refine wpList_nil (hK23 _ _ ?_)
      refine wp_region_lit ?_
      refine q_is (l' := [(.slice p_a L_a.length q_a), Ud, (.slice none 0 0), (.slice (some ⟨b3, 0, none⟩) L_a.length L_a.length), (Iv (k : Int)), (.slice p_a L_a.length q_a), (Iv (L_a.length : Int)), (.slice (some ⟨b3, 0, none⟩) L_a.length L_a.length), (Iv (k : Int)), (.slice p_a L_a.length q_a), (Iv (L_a.length : Int)), (Bo (icmp .lss (k : Int) (L_a.length : Int))), (Iv (k : Int)), (u15 13), (.slice (some ⟨b3, 0, none⟩) L_a.length L_a.length), (Iv (k : Int)), (.slice p_a L_a.length q_a), (Iv (k : Int)), (Pt b24 o25), (Fl r28), (Pt b3 (k * 1)), Ud]) rfl rfl (does_move (u := (Iv (k : Int))) (ev rfl)) rfl ?_
      refine q_is (l' := [(.slice p_a L_a.length q_a), Ud, (.slice none 0 0), (.slice (some ⟨b3, 0, none⟩) L_a.length L_a.length), (Iv (k : Int)), (.slice p_a L_a.length q_a), (Iv (L_a.length : Int)), (.slice (some ⟨b3, 0, none⟩) L_a.length L_a.length), (Iv (k : Int)), (.slice p_a L_a.length q_a), (Iv (L_a.length : Int)), (Bo (icmp .lss (k : Int) (L_a.length : Int))), (Iv (k : Int)), (Iv ((k : Int) + 1)), (.slice (some ⟨b3, 0, none⟩) L_a.length L_a.length), (Iv (k : Int)), (.slice p_a L_a.length q_a), (Iv (k : Int)), (Pt b24 o25), (Fl r28), (Pt b3 (k * 1)), Ud]) rfl rfl (does_iarith (p := (k : Int)) (q := 1) (r := (k : Int) + 1) (ev rfl) (ev rfl) (.inl ⟨rfl, (in_i64 (by omega) (by omega)).symm⟩)) rfl ?_
      refine q_is (l' := [(.slice p_a L_a.length q_a), Ud, (.slice none 0 0), (.slice (some ⟨b3, 0, none⟩) L_a.length L_a.length), (Iv ((k : Int) + 1)), (.slice p_a L_a.length q_a), (Iv (L_a.length : Int)), (.slice (some ⟨b3, 0, none⟩) L_a.length L_a.length), (Iv (k : Int)), (.slice p_a L_a.length q_a), (Iv (L_a.length : Int)), (Bo (icmp .lss (k : Int) (L_a.length : Int))), (Iv (k : Int)), (Iv ((k : Int) + 1)), (.slice (some ⟨b3, 0, none⟩) L_a.length L_a.length), (Iv (k : Int)), (.slice p_a L_a.length q_a), (Iv (k : Int)), (Pt b24 o25), (Fl r28), (Pt b3 (k * 1)), Ud]) rfl rfl (does_assign (u := (Iv ((k : Int) + 1))) (ev rfl)) rfl ?_
      refine wpList_nil ?_
      refine ⟨k + 1, ⟨fun t => (([(.slice p_a L_a.length q_a), Ud, (.slice none 0 0), (.slice (some ⟨b3, 0, none⟩) L_a.length L_a.length), (Iv ((k : Int) + 1)), (.slice p_a L_a.length q_a), (Iv (L_a.length : Int)), (.slice (some ⟨b3, 0, none⟩) L_a.length L_a.length), (Iv (k : Int)), (.slice p_a L_a.length q_a), (Iv (L_a.length : Int)), (Bo (icmp .lss (k : Int) (L_a.length : Int))), (Iv (k : Int)), (Iv ((k : Int) + 1)), (.slice (some ⟨b3, 0, none⟩) L_a.length L_a.length), (Iv (k : Int)), (.slice p_a L_a.length q_a), (Iv (k : Int)), (Pt b24 o25), (Fl r28), (Pt b3 (k * 1)), Ud] : List Value)[t]?).getD undef, ?_, (KpL.more E17 (KpL.of_wr W30) (allS (.inl (by simp)) all0)), hF31, ?_⟩, ?_⟩
      · first | rfl | (simp only [Nat.cast_add, Nat.cast_one, Int.natCast_add, Int.natCast_one]; rfl)
      · omega
      · omega
    have c22' := c22
    (try simp only [icmp, Bool.and_eq_true, Bool.or_eq_true, Bool.and_eq_false_iff, Bool.or_eq_false_iff, Bool.not_eq_true', Bool.not_eq_false', decide_eq_true_eq, decide_eq_false_iff_not, beq_iff_eq, bne_iff_ne, beq_eq_false_iff_ne, bne_eq_false_iff_eq] at c22')
    refine wp_exit ?_
    refine hK13 _ _ ?_
    refine wp_seq_k fun K34 hK34 => ?_
    refine wp_region_lit ?_
    refine q_is (l' := [(.slice p_a L_a.length q_a), Ud, (.slice none 0 0), (.slice (some ⟨b3, 0, none⟩) L_a.length L_a.length), (Iv (k : Int)), (.slice p_a L_a.length q_a), (Iv (L_a.length : Int)), (.slice (some ⟨b3, 0, none⟩) L_a.length L_a.length), (Iv (k : Int)), (.slice p_a L_a.length q_a), (Iv (L_a.length : Int)), (Bo (icmp .lss (k : Int) (L_a.length : Int))), (u15 12), (u15 13), (u15 14), (u15 15), (u15 16), (u15 17), (u15 18), (u15 19), (u15 20), (.slice (some ⟨b3, 0, none⟩) L_a.length L_a.length)]) rfl rfl (does_move (u := (.slice (some ⟨b3, 0, none⟩) L_a.length L_a.length)) (ev rfl)) rfl ?_
    refine q_is (l' := [(.slice p_a L_a.length q_a), Ud, (.slice (some ⟨b3, 0, none⟩) L_a.length L_a.length), (.slice (some ⟨b3, 0, none⟩) L_a.length L_a.length), (Iv (k : Int)), (.slice p_a L_a.length q_a), (Iv (L_a.length : Int)), (.slice (some ⟨b3, 0, none⟩) L_a.length L_a.length), (Iv (k : Int)), (.slice p_a L_a.length q_a), (Iv (L_a.length : Int)), (Bo (icmp .lss (k : Int) (L_a.length : Int))), (u15 12), (u15 13), (u15 14), (u15 15), (u15 16), (u15 17), (u15 18), (u15 19), (u15 20), (.slice (some ⟨b3, 0, none⟩) L_a.length L_a.length)]) rfl rfl (does_assign (u := (.slice (some ⟨b3, 0, none⟩) L_a.length L_a.length)) (ev rfl)) rfl ?_
    refine wpList_nil (hK34 _ _ ?_)
    refine wp_ret ?_
    refine ret_val (v := (.slice (some ⟨b3, 0, none⟩) L_a.length L_a.length)) (res_T rfl (slot rfl)) X19 ?_
    exact ⟨(.slice (some ⟨b3, 0, none⟩) L_a.length L_a.length), rfl, (Fill.hang hF18 RF.flat g11 (by omega) rfl (by omega) (by decide))⟩

/- laws.toNode -/
theorem c_laws_toNode (a : List Value) (A_a : NodeT) (w : World) (hv_a : RNodeT w A_a a) (hsz : A_a.nums.length ≤ 1048576) : Gives Try.prog 12 #[(.agg a.toArray)] w (fun v w' => ∃ cs_1 : List Value, v = (.agg cs_1.toArray) ∧ Hang w.heap.size w' (fun u => RNodeT u A_a cs_1)) := by
  obtain ⟨y1, rfl, h2⟩ := hv_a
  have hs5 := h2; have hs5l := Sl.len h2; obtain ⟨p3, q4, rfl⟩ := Sl.shape h2
  refine enter [(.agg #[(Iv A_a.kind), (Iv A_a.a), (Iv A_a.b), (.slice p3 A_a.nums.length q4)]), Ud, Ud, Ud, Ud, Ud, Ud, Ud, Ud, Ud, Ud, Ud, Ud, Ud, Ud, Ud, Ud, Ud] Try.func12 rfl Try.ntmps12 rfl ?_
  refine wp_seq_k fun K6 hK6 => ?_
  refine wp_region_lit ?_
  refine seqd rfl rfl (does_box (u := (.agg #[(Iv A_a.kind), (Iv A_a.a), (Iv A_a.b), (.slice p3 A_a.nums.length q4)])) (ev rfl)) ?_; rintro _ w11 ⟨b7, rfl, hb8, hB9, E10⟩
  have g12 : w.heap.size ≤ b7 := Nat.le_trans (Below.size (Ext.refl w)) hb8
  change Blk _ _ [(Iv A_a.kind), (Iv A_a.a), (Iv A_a.b), (.slice p3 A_a.nums.length q4)] at hB9
  have X13 := Ext.gr (Ext.refl w) E10
  show wpList _ _ _ _ (fr [(.agg #[(Iv A_a.kind), (Iv A_a.a), (Iv A_a.b), (.slice p3 A_a.nums.length q4)]), (Pt b7 0), Ud, Ud, Ud, Ud, Ud, Ud, Ud, Ud, Ud, Ud, Ud, Ud, Ud, Ud, Ud, Ud]) _
  refine seqd rfl rfl (does_alloc z37) ?_; rintro _ w18 ⟨b14, rfl, hb15, hB16, E17⟩
  have n19 : b7 < b14 := Nat.lt_of_lt_of_le (Blk.lt hB9) hb15
  have g20 : w.heap.size ≤ b14 := Nat.le_trans (Below.size X13) hb15
  change Blk _ _ [(Iv 0), (Iv 0), (Iv 0), (.slice none 0 0)] at hB16
  have X21 := Ext.gr X13 E17
  show wpList _ _ _ _ (fr [(.agg #[(Iv A_a.kind), (Iv A_a.a), (Iv A_a.b), (.slice p3 A_a.nums.length q4)]), (Pt b7 0), (Pt b14 0), Ud, Ud, Ud, Ud, Ud, Ud, Ud, Ud, Ud, Ud, Ud, Ud, Ud, Ud, Ud]) _
  refine wpList_nil (hK6 _ _ ?_)
  refine wp_seq_k fun K22 hK22 => ?_
  refine wp_region_lit ?_
  refine seqd rfl rfl (does_alloc z37) ?_; rintro _ w27 ⟨b23, rfl, hb24, hB25, E26⟩
  have n28 : b7 < b23 := Nat.lt_of_lt_of_le (Blk.lt (hB9.ext E17)) hb24
  have n29 : b14 < b23 := Nat.lt_of_lt_of_le (Blk.lt hB16) hb24
  have g30 : w.heap.size ≤ b23 := Nat.le_trans (Below.size X21) hb24
  change Blk _ _ [(Iv 0), (Iv 0), (Iv 0), (.slice none 0 0)] at hB25
  have X31 := Ext.gr X21 E26
  show wpList _ _ _ _ (fr [(.agg #[(Iv A_a.kind), (Iv A_a.a), (Iv A_a.b), (.slice p3 A_a.nums.length q4)]), (Pt b7 0), (Pt b14 0), (Pt b23 0), Ud, Ud, Ud, Ud, Ud, Ud, Ud, Ud, Ud, Ud, Ud, Ud, Ud, Ud]) _
  refine wpList_nil (hK22 _ _ ?_)
  refine wp_seq_k fun K32 hK32 => ?_
  refine wp_region_lit ?_
  refine q_is (l' := [(.agg #[(Iv A_a.kind), (Iv A_a.a), (Iv A_a.b), (.slice p3 A_a.nums.length q4)]), (Pt b7 0), (Pt b14 0), (Pt b23 0), (Pt b7 0), Ud, Ud, Ud, Ud, Ud, Ud, Ud, Ud, Ud, Ud, Ud, Ud, Ud]) rfl rfl (does_fieldAddr (ev rfl) fa34_0) rfl ?_
  refine q_is (l' := [(.agg #[(Iv A_a.kind), (Iv A_a.a), (Iv A_a.b), (.slice p3 A_a.nums.length q4)]), (Pt b7 0), (Pt b14 0), (Pt b23 0), (Pt b7 0), (Iv A_a.kind), Ud, Ud, Ud, Ud, Ud, Ud, Ud, Ud, Ud, Ud, Ud, Ud]) rfl rfl (does_load (u := (Iv A_a.kind)) (ev rfl) Try.isAgg2 (Cells.at (Blk.cells ((hB9.ext E17).ext E26)) 0 rfl)) rfl ?_
  refine q_is (l' := [(.agg #[(Iv A_a.kind), (Iv A_a.a), (Iv A_a.b), (.slice p3 A_a.nums.length q4)]), (Pt b7 0), (Pt b14 0), (Pt b23 0), (Pt b7 0), (Iv A_a.kind), (Pt b23 0), Ud, Ud, Ud, Ud, Ud, Ud, Ud, Ud, Ud, Ud, Ud]) rfl rfl (does_fieldAddr (ev rfl) fa37_0) rfl ?_
  refine seqn rfl rfl (does_store (n := 1) (cs := [(Iv 0), (Iv 0), (Iv 0), (.slice none 0 0)]) (u := (Iv A_a.kind)) (ev rfl) (ev rfl) Try.sizeOf2 rfl hB25 (Nat.le_of_ble_eq_true rfl) rfl) ?_; rintro _ w35 ⟨rfl, W33, hB34⟩
  change Blk _ _ [(Iv A_a.kind), (Iv 0), (Iv 0), (.slice none 0 0)] at hB34
  have X36 := Below.wr X31 W33 g30
  refine wpList_nil (hK32 _ _ ?_)
  refine wp_seq_k fun K37 hK37 => ?_
  refine wp_region_lit ?_
  refine q_is (l' := [(.agg #[(Iv A_a.kind), (Iv A_a.a), (Iv A_a.b), (.slice p3 A_a.nums.length q4)]), (Pt b7 0), (Pt b14 0), (Pt b23 0), (Pt b7 0), (Iv A_a.kind), (Pt b23 0), (Pt b7 1), Ud, Ud, Ud, Ud, Ud, Ud, Ud, Ud, Ud, Ud]) rfl rfl (does_fieldAddr (ev rfl) fa34_1) rfl ?_
  refine q_is (l' := [(.agg #[(Iv A_a.kind), (Iv A_a.a), (Iv A_a.b), (.slice p3 A_a.nums.length q4)]), (Pt b7 0), (Pt b14 0), (Pt b23 0), (Pt b7 0), (Iv A_a.kind), (Pt b23 0), (Pt b7 1), (Iv A_a.a), Ud, Ud, Ud, Ud, Ud, Ud, Ud, Ud, Ud]) rfl rfl (does_load (u := (Iv A_a.a)) (ev rfl) Try.isAgg2 (Cells.at (Blk.cells (((hB9.ext E17).ext E26).wr W33 (Nat.ne_of_lt n28))) 1 rfl)) rfl ?_
  refine q_is (l' := [(.agg #[(Iv A_a.kind), (Iv A_a.a), (Iv A_a.b), (.slice p3 A_a.nums.length q4)]), (Pt b7 0), (Pt b14 0), (Pt b23 0), (Pt b7 0), (Iv A_a.kind), (Pt b23 0), (Pt b7 1), (Iv A_a.a), (Pt b23 1), Ud, Ud, Ud, Ud, Ud, Ud, Ud, Ud]) rfl rfl (does_fieldAddr (ev rfl) fa37_1) rfl ?_
  refine seqn rfl rfl (does_store (n := 1) (cs := [(Iv A_a.kind), (Iv 0), (Iv 0), (.slice none 0 0)]) (u := (Iv A_a.a)) (ev rfl) (ev rfl) Try.sizeOf2 rfl hB34 (Nat.le_of_ble_eq_true rfl) rfl) ?_; rintro _ w40 ⟨rfl, W38, hB39⟩
  change Blk _ _ [(Iv A_a.kind), (Iv A_a.a), (Iv 0), (.slice none 0 0)] at hB39
  have X41 := Below.wr X36 W38 g30
  refine wpList_nil (hK37 _ _ ?_)
  refine wp_seq_k fun K42 hK42 => ?_
  refine wp_region_lit ?_
  refine q_is (l' := [(.agg #[(Iv A_a.kind), (Iv A_a.a), (Iv A_a.b), (.slice p3 A_a.nums.length q4)]), (Pt b7 0), (Pt b14 0), (Pt b23 0), (Pt b7 0), (Iv A_a.kind), (Pt b23 0), (Pt b7 1), (Iv A_a.a), (Pt b23 1), (Pt b7 2), Ud, Ud, Ud, Ud, Ud, Ud, Ud]) rfl rfl (does_fieldAddr (ev rfl) fa34_2) rfl ?_
  refine q_is (l' := [(.agg #[(Iv A_a.kind), (Iv A_a.a), (Iv A_a.b), (.slice p3 A_a.nums.length q4)]), (Pt b7 0), (Pt b14 0), (Pt b23 0), (Pt b7 0), (Iv A_a.kind), (Pt b23 0), (Pt b7 1), (Iv A_a.a), (Pt b23 1), (Pt b7 2), (Iv A_a.b), Ud, Ud, Ud, Ud, Ud, Ud]) rfl rfl (does_load (u := (Iv A_a.b)) (ev rfl) Try.isAgg2 (Cells.at (Blk.cells ((((hB9.ext E17).ext E26).wr W33 (Nat.ne_of_lt n28)).wr W38 (Nat.ne_of_lt n28))) 2 rfl)) rfl ?_
  refine q_is (l' := [(.agg #[(Iv A_a.kind), (Iv A_a.a), (Iv A_a.b), (.slice p3 A_a.nums.length q4)]), (Pt b7 0), (Pt b14 0), (Pt b23 0), (Pt b7 0), (Iv A_a.kind), (Pt b23 0), (Pt b7 1), (Iv A_a.a), (Pt b23 1), (Pt b7 2), (Iv A_a.b), (Pt b23 2), Ud, Ud, Ud, Ud, Ud]) rfl rfl (does_fieldAddr (ev rfl) fa37_2) rfl ?_
  refine seqn rfl rfl (does_store (n := 1) (cs := [(Iv A_a.kind), (Iv A_a.a), (Iv 0), (.slice none 0 0)]) (u := (Iv A_a.b)) (ev rfl) (ev rfl) Try.sizeOf2 rfl hB39 (Nat.le_of_ble_eq_true rfl) rfl) ?_; rintro _ w45 ⟨rfl, W43, hB44⟩
  change Blk _ _ [(Iv A_a.kind), (Iv A_a.a), (Iv A_a.b), (.slice none 0 0)] at hB44
  have X46 := Below.wr X41 W43 g30
  refine wpList_nil (hK42 _ _ ?_)
  refine wp_seq_k fun K47 hK47 => ?_
  refine wp_region_lit ?_
  refine q_is (l' := [(.agg #[(Iv A_a.kind), (Iv A_a.a), (Iv A_a.b), (.slice p3 A_a.nums.length q4)]), (Pt b7 0), (Pt b14 0), (Pt b23 0), (Pt b7 0), (Iv A_a.kind), (Pt b23 0), (Pt b7 1), (Iv A_a.a), (Pt b23 1), (Pt b7 2), (Iv A_a.b), (Pt b23 2), (Pt b7 3), Ud, Ud, Ud, Ud]) rfl rfl (does_fieldAddr (ev rfl) fa34_3) rfl ?_
  refine q_is (l' := [(.agg #[(Iv A_a.kind), (Iv A_a.a), (Iv A_a.b), (.slice p3 A_a.nums.length q4)]), (Pt b7 0), (Pt b14 0), (Pt b23 0), (Pt b7 0), (Iv A_a.kind), (Pt b23 0), (Pt b7 1), (Iv A_a.a), (Pt b23 1), (Pt b7 2), (Iv A_a.b), (Pt b23 2), (Pt b7 3), (.slice p3 A_a.nums.length q4), Ud, Ud, Ud]) rfl rfl (does_load (u := (.slice p3 A_a.nums.length q4)) (ev rfl) Try.isAgg32 (Cells.at (Blk.cells (((((hB9.ext E17).ext E26).wr W33 (Nat.ne_of_lt n28)).wr W38 (Nat.ne_of_lt n28)).wr W43 (Nat.ne_of_lt n28))) 3 rfl)) rfl ?_
  refine seqd rfl rfl (does_call (args := #[(.slice p3 A_a.nums.length q4)]) cal24 (evs rfl) (c_laws_toFloat32S (.slice p3 A_a.nums.length q4) A_a.nums _ (Sl.ext hs5 RF.mono X46) (by omega))) ?_; rintro _ w49 ⟨E48, ⟨y51, rfl, hh50⟩⟩
  have X52 := Ext.gr X46 E48
  have n53 : b7 < w45.heap.size := Blk.lt (((((hB9.ext E17).ext E26).wr W33 (Nat.ne_of_lt n28)).wr W38 (Nat.ne_of_lt n28)).wr W43 (Nat.ne_of_lt n28))
  have n54 : b14 < w45.heap.size := Blk.lt ((((hB16.ext E26).wr W33 (Nat.ne_of_lt n29)).wr W38 (Nat.ne_of_lt n29)).wr W43 (Nat.ne_of_lt n29))
  have n55 : b23 < w45.heap.size := Blk.lt hB44
  obtain ⟨p56, q57, rfl⟩ := Sl.shape hh50.get
  show wpList _ _ _ _ (fr [(.agg #[(Iv A_a.kind), (Iv A_a.a), (Iv A_a.b), (.slice p3 A_a.nums.length q4)]), (Pt b7 0), (Pt b14 0), (Pt b23 0), (Pt b7 0), (Iv A_a.kind), (Pt b23 0), (Pt b7 1), (Iv A_a.a), (Pt b23 1), (Pt b7 2), (Iv A_a.b), (Pt b23 2), (Pt b7 3), (.slice p3 A_a.nums.length q4), (.slice p56 A_a.nums.length q57), Ud, Ud]) _
  refine q_is (l' := [(.agg #[(Iv A_a.kind), (Iv A_a.a), (Iv A_a.b), (.slice p3 A_a.nums.length q4)]), (Pt b7 0), (Pt b14 0), (Pt b23 0), (Pt b7 0), (Iv A_a.kind), (Pt b23 0), (Pt b7 1), (Iv A_a.a), (Pt b23 1), (Pt b7 2), (Iv A_a.b), (Pt b23 2), (Pt b7 3), (.slice p3 A_a.nums.length q4), (.slice p56 A_a.nums.length q57), (Pt b23 3), Ud]) rfl rfl (does_fieldAddr (ev rfl) fa37_3) rfl ?_
  refine seqn rfl rfl (does_store (n := 1) (cs := [(Iv A_a.kind), (Iv A_a.a), (Iv A_a.b), (.slice none 0 0)]) (u := (.slice p56 A_a.nums.length q57)) (ev rfl) (ev rfl) Try.sizeOf32 rfl (hB44.ext E48) (Nat.le_of_ble_eq_true rfl) rfl) ?_; rintro _ w60 ⟨rfl, W58, hB59⟩
  change Blk _ _ [(Iv A_a.kind), (Iv A_a.a), (Iv A_a.b), (.slice p56 A_a.nums.length q57)] at hB59
  have X61 := Below.wr X52 W58 g30
  refine wpList_nil (hK47 _ _ ?_)
  refine wp_seq_k fun K62 hK62 => ?_
  refine wp_region_lit ?_
  refine q_is (l' := [(.agg #[(Iv A_a.kind), (Iv A_a.a), (Iv A_a.b), (.slice p3 A_a.nums.length q4)]), (Pt b7 0), (Pt b14 0), (Pt b23 0), (Pt b7 0), (Iv A_a.kind), (Pt b23 0), (Pt b7 1), (Iv A_a.a), (Pt b23 1), (Pt b7 2), (Iv A_a.b), (Pt b23 2), (Pt b7 3), (.slice p3 A_a.nums.length q4), (.slice p56 A_a.nums.length q57), (Pt b23 3), (.agg #[(Iv A_a.kind), (Iv A_a.a), (Iv A_a.b), (.slice p56 A_a.nums.length q57)])]) rfl rfl (does_loadAgg (cs := [(Iv A_a.kind), (Iv A_a.a), (Iv A_a.b), (.slice p56 A_a.nums.length q57)]) (ev rfl) Try.isAgg37 Try.sizeOf37 (Blk.cells hB59) rfl) rfl ?_
  refine seqn rfl rfl (does_store (n := 4) (cs := [(Iv 0), (Iv 0), (Iv 0), (.slice none 0 0)]) (u := (.agg #[(Iv A_a.kind), (Iv A_a.a), (Iv A_a.b), (.slice p56 A_a.nums.length q57)])) (ev rfl) (ev rfl) Try.sizeOf37 rfl ((((((hB16.ext E26).wr W33 (Nat.ne_of_lt n29)).wr W38 (Nat.ne_of_lt n29)).wr W43 (Nat.ne_of_lt n29)).ext E48).wr W58 (Nat.ne_of_lt n29)) (Nat.le_of_ble_eq_true rfl) rfl) ?_; rintro _ w65 ⟨rfl, W63, hB64⟩
  change Blk _ _ [(Iv A_a.kind), (Iv A_a.a), (Iv A_a.b), (.slice p56 A_a.nums.length q57)] at hB64
  have X66 := Below.wr X61 W63 g20
  refine wpList_nil (hK62 _ _ ?_)
  refine wp_ret ?_
  refine ret_val (v := (.agg #[(Iv A_a.kind), (Iv A_a.a), (Iv A_a.b), (.slice p56 A_a.nums.length q57)])) (res_C rfl (slot rfl) (run_loadAgg (cs := [(Iv A_a.kind), (Iv A_a.a), (Iv A_a.b), (.slice p56 A_a.nums.length q57)]) Try.isAgg37 Try.sizeOf37 (Blk.cells hB64) rfl)) X66 ?_
  exact ⟨[(Iv A_a.kind), (Iv A_a.a), (Iv A_a.b), (.slice p56 A_a.nums.length q57)], rfl, fun u hu => ⟨(.slice p56 A_a.nums.length q57), rfl, ((Hang.to hh50 (((Same.refl _ _).wr W58 (.inl n55)).wr W63 (.inl n54))).le (Below.size (Below.wr (Below.wr (Below.wr (Ext.gr (Ext.gr (Ext.gr (Ext.refl _) E10) E17) E26) W33 g30) W38 g30) W43 g30))) u hu⟩⟩

/- laws.toStep -/
theorem c_laws_toStep (a : List Value) (A_a : StepT) (w : World) (hv_a : RStepT w A_a a) (hsz : A_a.node.nums.length ≤ 1048576) : Gives Try.prog 30 #[(.agg a.toArray)] w (fun v w' => ∃ cs_1 : List Value, v = (.agg cs_1.toArray) ∧ Hang w.heap.size w' (fun u => RStepT u A_a cs_1)) := by
  obtain ⟨y1, rfl, h2⟩ := hv_a
  have hs5 := h2; have hs5l := Sl.len h2; obtain ⟨p3, q4, rfl⟩ := Sl.shape h2
  refine enter [(.agg #[(Iv A_a.kind), (Iv A_a.to), (Iv A_a.a), (Iv A_a.b), (Iv A_a.node.kind), (Iv A_a.node.a), (Iv A_a.node.b), (.slice p3 A_a.node.nums.length q4)]), Ud, Ud, Ud, Ud, Ud, Ud, Ud, Ud, Ud, Ud, Ud, Ud, Ud, Ud, Ud, Ud, Ud, Ud, Ud, Ud] Try.func30 rfl Try.ntmps30 rfl ?_
  refine wp_seq_k fun K6 hK6 => ?_
  refine wp_region_lit ?_
  refine seqd rfl rfl (does_box (u := (.agg #[(Iv A_a.kind), (Iv A_a.to), (Iv A_a.a), (Iv A_a.b), (Iv A_a.node.kind), (Iv A_a.node.a), (Iv A_a.node.b), (.slice p3 A_a.node.nums.length q4)])) (ev rfl)) ?_; rintro _ w11 ⟨b7, rfl, hb8, hB9, E10⟩
  have g12 : w.heap.size ≤ b7 := Nat.le_trans (Below.size (Ext.refl w)) hb8
  change Blk _ _ [(Iv A_a.kind), (Iv A_a.to), (Iv A_a.a), (Iv A_a.b), (Iv A_a.node.kind), (Iv A_a.node.a), (Iv A_a.node.b), (.slice p3 A_a.node.nums.length q4)] at hB9
  have X13 := Ext.gr (Ext.refl w) E10
  show wpList _ _ _ _ (fr [(.agg #[(Iv A_a.kind), (Iv A_a.to), (Iv A_a.a), (Iv A_a.b), (Iv A_a.node.kind), (Iv A_a.node.a), (Iv A_a.node.b), (.slice p3 A_a.node.nums.length q4)]), (Pt b7 0), Ud, Ud, Ud, Ud, Ud, Ud, Ud, Ud, Ud, Ud, Ud, Ud, Ud, Ud, Ud, Ud, Ud, Ud, Ud]) _
  refine seqd rfl rfl (does_alloc z43) ?_; rintro _ w18 ⟨b14, rfl, hb15, hB16, E17⟩
  have n19 : b7 < b14 := Nat.lt_of_lt_of_le (Blk.lt hB9) hb15
  have g20 : w.heap.size ≤ b14 := Nat.le_trans (Below.size X13) hb15
  change Blk _ _ [(Iv 0), (Iv 0), (Iv 0), (Iv 0), (Iv 0), (Iv 0), (Iv 0), (.slice none 0 0)] at hB16
  have X21 := Ext.gr X13 E17
  show wpList _ _ _ _ (fr [(.agg #[(Iv A_a.kind), (Iv A_a.to), (Iv A_a.a), (Iv A_a.b), (Iv A_a.node.kind), (Iv A_a.node.a), (Iv A_a.node.b), (.slice p3 A_a.node.nums.length q4)]), (Pt b7 0), (Pt b14 0), Ud, Ud, Ud, Ud, Ud, Ud, Ud, Ud, Ud, Ud, Ud, Ud, Ud, Ud, Ud, Ud, Ud, Ud]) _
  refine wpList_nil (hK6 _ _ ?_)
  refine wp_seq_k fun K22 hK22 => ?_
  refine wp_region_lit ?_
  refine seqd rfl rfl (does_alloc z43) ?_; rintro _ w27 ⟨b23, rfl, hb24, hB25, E26⟩
  have n28 : b7 < b23 := Nat.lt_of_lt_of_le (Blk.lt (hB9.ext E17)) hb24
  have n29 : b14 < b23 := Nat.lt_of_lt_of_le (Blk.lt hB16) hb24
  have g30 : w.heap.size ≤ b23 := Nat.le_trans (Below.size X21) hb24
  change Blk _ _ [(Iv 0), (Iv 0), (Iv 0), (Iv 0), (Iv 0), (Iv 0), (Iv 0), (.slice none 0 0)] at hB25
  have X31 := Ext.gr X21 E26
  show wpList _ _ _ _ (fr [(.agg #[(Iv A_a.kind), (Iv A_a.to), (Iv A_a.a), (Iv A_a.b), (Iv A_a.node.kind), (Iv A_a.node.a), (Iv A_a.node.b), (.slice p3 A_a.node.nums.length q4)]), (Pt b7 0), (Pt b14 0), (Pt b23 0), Ud, Ud, Ud, Ud, Ud, Ud, Ud, Ud, Ud, Ud, Ud, Ud, Ud, Ud, Ud, Ud, Ud]) _
  refine wpList_nil (hK22 _ _ ?_)
  refine wp_seq_k fun K32 hK32 => ?_
  refine wp_region_lit ?_
  refine q_is (l' := [(.agg #[(Iv A_a.kind), (Iv A_a.to), (Iv A_a.a), (Iv A_a.b), (Iv A_a.node.kind), (Iv A_a.node.a), (Iv A_a.node.b), (.slice p3 A_a.node.nums.length q4)]), (Pt b7 0), (Pt b14 0), (Pt b23 0), (Pt b7 0), Ud, Ud, Ud, Ud, Ud, Ud, Ud, Ud, Ud, Ud, Ud, Ud, Ud, Ud, Ud, Ud]) rfl rfl (does_fieldAddr (ev rfl) fa57_0) rfl ?_
  refine q_is (l' := [(.agg #[(Iv A_a.kind), (Iv A_a.to), (Iv A_a.a), (Iv A_a.b), (Iv A_a.node.kind), (Iv A_a.node.a), (Iv A_a.node.b), (.slice p3 A_a.node.nums.length q4)]), (Pt b7 0), (Pt b14 0), (Pt b23 0), (Pt b7 0), (Iv A_a.kind), Ud, Ud, Ud, Ud, Ud, Ud, Ud, Ud, Ud, Ud, Ud, Ud, Ud, Ud, Ud]) rfl rfl (does_load (u := (Iv A_a.kind)) (ev rfl) Try.isAgg2 (Cells.at (Blk.cells ((hB9.ext E17).ext E26)) 0 rfl)) rfl ?_
  refine q_is (l' := [(.agg #[(Iv A_a.kind), (Iv A_a.to), (Iv A_a.a), (Iv A_a.b), (Iv A_a.node.kind), (Iv A_a.node.a), (Iv A_a.node.b), (.slice p3 A_a.node.nums.length q4)]), (Pt b7 0), (Pt b14 0), (Pt b23 0), (Pt b7 0), (Iv A_a.kind), (Pt b23 0), Ud, Ud, Ud, Ud, Ud, Ud, Ud, Ud, Ud, Ud, Ud, Ud, Ud, Ud]) rfl rfl (does_fieldAddr (ev rfl) fa43_0) rfl ?_
  refine seqn rfl rfl (does_store (n := 1) (cs := [(Iv 0), (Iv 0), (Iv 0), (Iv 0), (Iv 0), (Iv 0), (Iv 0), (.slice none 0 0)]) (u := (Iv A_a.kind)) (ev rfl) (ev rfl) Try.sizeOf2 rfl hB25 (Nat.le_of_ble_eq_true rfl) rfl) ?_; rintro _ w35 ⟨rfl, W33, hB34⟩
  change Blk _ _ [(Iv A_a.kind), (Iv 0), (Iv 0), (Iv 0), (Iv 0), (Iv 0), (Iv 0), (.slice none 0 0)] at hB34
  have X36 := Below.wr X31 W33 g30
  refine wpList_nil (hK32 _ _ ?_)
  refine wp_seq_k fun K37 hK37 => ?_
  refine wp_region_lit ?_
  refine q_is (l' := [(.agg #[(Iv A_a.kind), (Iv A_a.to), (Iv A_a.a), (Iv A_a.b), (Iv A_a.node.kind), (Iv A_a.node.a), (Iv A_a.node.b), (.slice p3 A_a.node.nums.length q4)]), (Pt b7 0), (Pt b14 0), (Pt b23 0), (Pt b7 0), (Iv A_a.kind), (Pt b23 0), (Pt b7 1), Ud, Ud, Ud, Ud, Ud, Ud, Ud, Ud, Ud, Ud, Ud, Ud, Ud]) rfl rfl (does_fieldAddr (ev rfl) fa57_1) rfl ?_
  refine q_is (l' := [(.agg #[(Iv A_a.kind), (Iv A_a.to), (Iv A_a.a), (Iv A_a.b), (Iv A_a.node.kind), (Iv A_a.node.a), (Iv A_a.node.b), (.slice p3 A_a.node.nums.length q4)]), (Pt b7 0), (Pt b14 0), (Pt b23 0), (Pt b7 0), (Iv A_a.kind), (Pt b23 0), (Pt b7 1), (Iv A_a.to), Ud, Ud, Ud, Ud, Ud, Ud, Ud, Ud, Ud, Ud, Ud, Ud]) rfl rfl (does_load (u := (Iv A_a.to)) (ev rfl) Try.isAgg2 (Cells.at (Blk.cells (((hB9.ext E17).ext E26).wr W33 (Nat.ne_of_lt n28))) 1 rfl)) rfl ?_
  refine q_is (l' := [(.agg #[(Iv A_a.kind), (Iv A_a.to), (Iv A_a.a), (Iv A_a.b), (Iv A_a.node.kind), (Iv A_a.node.a), (Iv A_a.node.b), (.slice p3 A_a.node.nums.length q4)]), (Pt b7 0), (Pt b14 0), (Pt b23 0), (Pt b7 0), (Iv A_a.kind), (Pt b23 0), (Pt b7 1), (Iv A_a.to), (Pt b23 1), Ud, Ud, Ud, Ud, Ud, Ud, Ud, Ud, Ud, Ud, Ud]) rfl rfl (does_fieldAddr (ev rfl) fa43_1) rfl ?_
  refine seqn rfl rfl (does_store (n := 1) (cs := [(Iv A_a.kind), (Iv 0), (Iv 0), (Iv 0), (Iv 0), (Iv 0), (Iv 0), (.slice none 0 0)]) (u := (Iv A_a.to)) (ev rfl) (ev rfl) Try.sizeOf2 rfl hB34 (Nat.le_of_ble_eq_true rfl) rfl) ?_; rintro _ w40 ⟨rfl, W38, hB39⟩
  change Blk _ _ [(Iv A_a.kind), (Iv A_a.to), (Iv 0), (Iv 0), (Iv 0), (Iv 0), (Iv 0), (.slice none 0 0)] at hB39
  have X41 := Below.wr X36 W38 g30
  refine wpList_nil (hK37 _ _ ?_)
  refine wp_seq_k fun K42 hK42 => ?_
  refine wp_region_lit ?_
  refine q_is (l' := [(.agg #[(Iv A_a.kind), (Iv A_a.to), (Iv A_a.a), (Iv A_a.b), (Iv A_a.node.kind), (Iv A_a.node.a), (Iv A_a.node.b), (.slice p3 A_a.node.nums.length q4)]), (Pt b7 0), (Pt b14 0), (Pt b23 0), (Pt b7 0), (Iv A_a.kind), (Pt b23 0), (Pt b7 1), (Iv A_a.to), (Pt b23 1), (Pt b7 2), Ud, Ud, Ud, Ud, Ud, Ud, Ud, Ud, Ud, Ud]) rfl rfl (does_fieldAddr (ev rfl) fa57_2) rfl ?_
  refine q_is (l' := [(.agg #[(Iv A_a.kind), (Iv A_a.to), (Iv A_a.a), (Iv A_a.b), (Iv A_a.node.kind), (Iv A_a.node.a), (Iv A_a.node.b), (.slice p3 A_a.node.nums.length q4)]), (Pt b7 0), (Pt b14 0), (Pt b23 0), (Pt b7 0), (Iv A_a.kind), (Pt b23 0), (Pt b7 1), (Iv A_a.to), (Pt b23 1), (Pt b7 2), (Iv A_a.a), Ud, Ud, Ud, Ud, Ud, Ud, Ud, Ud, Ud]) rfl rfl (does_load (u := (Iv A_a.a)) (ev rfl) Try.isAgg2 (Cells.at (Blk.cells ((((hB9.ext E17).ext E26).wr W33 (Nat.ne_of_lt n28)).wr W38 (Nat.ne_of_lt n28))) 2 rfl)) rfl ?_
  refine q_is (l' := [(.agg #[(Iv A_a.kind), (Iv A_a.to), (Iv A_a.a), (Iv A_a.b), (Iv A_a.node.kind), (Iv A_a.node.a), (Iv A_a.node.b), (.slice p3 A_a.node.nums.length q4)]), (Pt b7 0), (Pt b14 0), (Pt b23 0), (Pt b7 0), (Iv A_a.kind), (Pt b23 0), (Pt b7 1), (Iv A_a.to), (Pt b23 1), (Pt b7 2), (Iv A_a.a), (Pt b23 2), Ud, Ud, Ud, Ud, Ud, Ud, Ud, Ud]) rfl rfl (does_fieldAddr (ev rfl) fa43_2) rfl ?_
  refine seqn rfl rfl (does_store (n := 1) (cs := [(Iv A_a.kind), (Iv A_a.to), (Iv 0), (Iv 0), (Iv 0), (Iv 0), (Iv 0), (.slice none 0 0)]) (u := (Iv A_a.a)) (ev rfl) (ev rfl) Try.sizeOf2 rfl hB39 (Nat.le_of_ble_eq_true rfl) rfl) ?_; rintro _ w45 ⟨rfl, W43, hB44⟩
  change Blk _ _ [(Iv A_a.kind), (Iv A_a.to), (Iv A_a.a), (Iv 0), (Iv 0), (Iv 0), (Iv 0), (.slice none 0 0)] at hB44
  have X46 := Below.wr X41 W43 g30
  refine wpList_nil (hK42 _ _ ?_)
  refine wp_seq_k fun K47 hK47 => ?_
  refine wp_region_lit ?_
  refine q_is (l' := [(.agg #[(Iv A_a.kind), (Iv A_a.to), (Iv A_a.a), (Iv A_a.b), (Iv A_a.node.kind), (Iv A_a.node.a), (Iv A_a.node.b), (.slice p3 A_a.node.nums.length q4)]), (Pt b7 0), (Pt b14 0), (Pt b23 0), (Pt b7 0), (Iv A_a.kind), (Pt b23 0), (Pt b7 1), (Iv A_a.to), (Pt b23 1), (Pt b7 2), (Iv A_a.a), (Pt b23 2), (Pt b7 3), Ud, Ud, Ud, Ud, Ud, Ud, Ud]) rfl rfl (does_fieldAddr (ev rfl) fa57_3) rfl ?_
  refine q_is (l' := [(.agg #[(Iv A_a.kind), (Iv A_a.to), (Iv A_a.a), (Iv A_a.b), (Iv A_a.node.kind), (Iv A_a.node.a), (Iv A_a.node.b), (.slice p3 A_a.node.nums.length q4)]), (Pt b7 0), (Pt b14 0), (Pt b23 0), (Pt b7 0), (Iv A_a.kind), (Pt b23 0), (Pt b7 1), (Iv A_a.to), (Pt b23 1), (Pt b7 2), (Iv A_a.a), (Pt b23 2), (Pt b7 3), (Iv A_a.b), Ud, Ud, Ud, Ud, Ud, Ud]) rfl rfl (does_load (u := (Iv A_a.b)) (ev rfl) Try.isAgg2 (Cells.at (Blk.cells (((((hB9.ext E17).ext E26).wr W33 (Nat.ne_of_lt n28)).wr W38 (Nat.ne_of_lt n28)).wr W43 (Nat.ne_of_lt n28))) 3 rfl)) rfl ?_
  refine q_is (l' := [(.agg #[(Iv A_a.kind), (Iv A_a.to), (Iv A_a.a), (Iv A_a.b), (Iv A_a.node.kind), (Iv A_a.node.a), (Iv A_a.node.b), (.slice p3 A_a.node.nums.length q4)]), (Pt b7 0), (Pt b14 0), (Pt b23 0), (Pt b7 0), (Iv A_a.kind), (Pt b23 0), (Pt b7 1), (Iv A_a.to), (Pt b23 1), (Pt b7 2), (Iv A_a.a), (Pt b23 2), (Pt b7 3), (Iv A_a.b), (Pt b23 3), Ud, Ud, Ud, Ud, Ud]) rfl rfl (does_fieldAddr (ev rfl) fa43_3) rfl ?_
  refine seqn rfl rfl (does_store (n := 1) (cs := [(Iv A_a.kind), (Iv A_a.to), (Iv A_a.a), (Iv 0), (Iv 0), (Iv 0), (Iv 0), (.slice none 0 0)]) (u := (Iv A_a.b)) (ev rfl) (ev rfl) Try.sizeOf2 rfl hB44 (Nat.le_of_ble_eq_true rfl) rfl) ?_; rintro _ w50 ⟨rfl, W48, hB49⟩
  change Blk _ _ [(Iv A_a.kind), (Iv A_a.to), (Iv A_a.a), (Iv A_a.b), (Iv 0), (Iv 0), (Iv 0), (.slice none 0 0)] at hB49
  have X51 := Below.wr X46 W48 g30
  refine wpList_nil (hK47 _ _ ?_)
  refine wp_seq_k fun K52 hK52 => ?_
  refine wp_region_lit ?_
  refine q_is (l' := [(.agg #[(Iv A_a.kind), (Iv A_a.to), (Iv A_a.a), (Iv A_a.b), (Iv A_a.node.kind), (Iv A_a.node.a), (Iv A_a.node.b), (.slice p3 A_a.node.nums.length q4)]), (Pt b7 0), (Pt b14 0), (Pt b23 0), (Pt b7 0), (Iv A_a.kind), (Pt b23 0), (Pt b7 1), (Iv A_a.to), (Pt b23 1), (Pt b7 2), (Iv A_a.a), (Pt b23 2), (Pt b7 3), (Iv A_a.b), (Pt b23 3), (Pt b7 4), Ud, Ud, Ud, Ud]) rfl rfl (does_fieldAddr (ev rfl) fa57_4) rfl ?_
  refine q_is (l' := [(.agg #[(Iv A_a.kind), (Iv A_a.to), (Iv A_a.a), (Iv A_a.b), (Iv A_a.node.kind), (Iv A_a.node.a), (Iv A_a.node.b), (.slice p3 A_a.node.nums.length q4)]), (Pt b7 0), (Pt b14 0), (Pt b23 0), (Pt b7 0), (Iv A_a.kind), (Pt b23 0), (Pt b7 1), (Iv A_a.to), (Pt b23 1), (Pt b7 2), (Iv A_a.a), (Pt b23 2), (Pt b7 3), (Iv A_a.b), (Pt b23 3), (Pt b7 4), (.agg #[(Iv A_a.node.kind), (Iv A_a.node.a), (Iv A_a.node.b), (.slice p3 A_a.node.nums.length q4)]), Ud, Ud, Ud]) rfl rfl (does_loadAgg (cs := [(Iv A_a.node.kind), (Iv A_a.node.a), (Iv A_a.node.b), (.slice p3 A_a.node.nums.length q4)]) (ev rfl) Try.isAgg34 Try.sizeOf34 (Cells.sub (Blk.cells ((((((hB9.ext E17).ext E26).wr W33 (Nat.ne_of_lt n28)).wr W38 (Nat.ne_of_lt n28)).wr W43 (Nat.ne_of_lt n28)).wr W48 (Nat.ne_of_lt n28))) 4 4) rfl) rfl ?_
  refine seqd rfl rfl (does_call (args := #[(.agg #[(Iv A_a.node.kind), (Iv A_a.node.a), (Iv A_a.node.b), (.slice p3 A_a.node.nums.length q4)])]) cal12 (evs rfl) (c_laws_toNode [(Iv A_a.node.kind), (Iv A_a.node.a), (Iv A_a.node.b), (.slice p3 A_a.node.nums.length q4)] A_a.node _ ⟨(.slice p3 A_a.node.nums.length q4), rfl, (Sl.ext hs5 RF.mono X51)⟩ (by omega))) ?_; rintro _ w54 ⟨E53, ⟨cs56, rfl, hh55⟩⟩
  have X57 := Ext.gr X51 E53
  have n58 : b7 < w50.heap.size := Blk.lt ((((((hB9.ext E17).ext E26).wr W33 (Nat.ne_of_lt n28)).wr W38 (Nat.ne_of_lt n28)).wr W43 (Nat.ne_of_lt n28)).wr W48 (Nat.ne_of_lt n28))
  have n59 : b14 < w50.heap.size := Blk.lt (((((hB16.ext E26).wr W33 (Nat.ne_of_lt n29)).wr W38 (Nat.ne_of_lt n29)).wr W43 (Nat.ne_of_lt n29)).wr W48 (Nat.ne_of_lt n29))
  have n60 : b23 < w50.heap.size := Blk.lt hB49
  obtain ⟨y61, rfl, h62⟩ := hh55.get
  have h62l := Sl.len h62; obtain ⟨p63, q64, rfl⟩ := Sl.shape h62
  have hh65 : Hang w50.heap.size w54 (fun u => Sl RF 1 u (.slice p63 A_a.node.nums.length q64) A_a.node.nums) := fun u hu => by obtain ⟨_, hq, _⟩ := hh55 u hu; cases hq; assumption
  show wpList _ _ _ _ (fr [(.agg #[(Iv A_a.kind), (Iv A_a.to), (Iv A_a.a), (Iv A_a.b), (Iv A_a.node.kind), (Iv A_a.node.a), (Iv A_a.node.b), (.slice p3 A_a.node.nums.length q4)]), (Pt b7 0), (Pt b14 0), (Pt b23 0), (Pt b7 0), (Iv A_a.kind), (Pt b23 0), (Pt b7 1), (Iv A_a.to), (Pt b23 1), (Pt b7 2), (Iv A_a.a), (Pt b23 2), (Pt b7 3), (Iv A_a.b), (Pt b23 3), (Pt b7 4), (.agg #[(Iv A_a.node.kind), (Iv A_a.node.a), (Iv A_a.node.b), (.slice p3 A_a.node.nums.length q4)]), (.agg #[(Iv A_a.node.kind), (Iv A_a.node.a), (Iv A_a.node.b), (.slice p63 A_a.node.nums.length q64)]), Ud, Ud]) _
  refine q_is (l' := [(.agg #[(Iv A_a.kind), (Iv A_a.to), (Iv A_a.a), (Iv A_a.b), (Iv A_a.node.kind), (Iv A_a.node.a), (Iv A_a.node.b), (.slice p3 A_a.node.nums.length q4)]), (Pt b7 0), (Pt b14 0), (Pt b23 0), (Pt b7 0), (Iv A_a.kind), (Pt b23 0), (Pt b7 1), (Iv A_a.to), (Pt b23 1), (Pt b7 2), (Iv A_a.a), (Pt b23 2), (Pt b7 3), (Iv A_a.b), (Pt b23 3), (Pt b7 4), (.agg #[(Iv A_a.node.kind), (Iv A_a.node.a), (Iv A_a.node.b), (.slice p3 A_a.node.nums.length q4)]), (.agg #[(Iv A_a.node.kind), (Iv A_a.node.a), (Iv A_a.node.b), (.slice p63 A_a.node.nums.length q64)]), (Pt b23 4), Ud]) rfl rfl (does_fieldAddr (ev rfl) fa43_4) rfl ?_
  refine seqn rfl rfl (does_store (n := 4) (cs := [(Iv A_a.kind), (Iv A_a.to), (Iv A_a.a), (Iv A_a.b), (Iv 0), (Iv 0), (Iv 0), (.slice none 0 0)]) (u := (.agg #[(Iv A_a.node.kind), (Iv A_a.node.a), (Iv A_a.node.b), (.slice p63 A_a.node.nums.length q64)])) (ev rfl) (ev rfl) Try.sizeOf37 rfl (hB49.ext E53) (Nat.le_of_ble_eq_true rfl) rfl) ?_; rintro _ w68 ⟨rfl, W66, hB67⟩
  change Blk _ _ [(Iv A_a.kind), (Iv A_a.to), (Iv A_a.a), (Iv A_a.b), (Iv A_a.node.kind), (Iv A_a.node.a), (Iv A_a.node.b), (.slice p63 A_a.node.nums.length q64)] at hB67
  have X69 := Below.wr X57 W66 g30
  refine wpList_nil (hK52 _ _ ?_)
  refine wp_seq_k fun K70 hK70 => ?_
  refine wp_region_lit ?_
  refine q_is (l' := [(.agg #[(Iv A_a.kind), (Iv A_a.to), (Iv A_a.a), (Iv A_a.b), (Iv A_a.node.kind), (Iv A_a.node.a), (Iv A_a.node.b), (.slice p3 A_a.node.nums.length q4)]), (Pt b7 0), (Pt b14 0), (Pt b23 0), (Pt b7 0), (Iv A_a.kind), (Pt b23 0), (Pt b7 1), (Iv A_a.to), (Pt b23 1), (Pt b7 2), (Iv A_a.a), (Pt b23 2), (Pt b7 3), (Iv A_a.b), (Pt b23 3), (Pt b7 4), (.agg #[(Iv A_a.node.kind), (Iv A_a.node.a), (Iv A_a.node.b), (.slice p3 A_a.node.nums.length q4)]), (.agg #[(Iv A_a.node.kind), (Iv A_a.node.a), (Iv A_a.node.b), (.slice p63 A_a.node.nums.length q64)]), (Pt b23 4), (.agg #[(Iv A_a.kind), (Iv A_a.to), (Iv A_a.a), (Iv A_a.b), (Iv A_a.node.kind), (Iv A_a.node.a), (Iv A_a.node.b), (.slice p63 A_a.node.nums.length q64)])]) rfl rfl (does_loadAgg (cs := [(Iv A_a.kind), (Iv A_a.to), (Iv A_a.a), (Iv A_a.b), (Iv A_a.node.kind), (Iv A_a.node.a), (Iv A_a.node.b), (.slice p63 A_a.node.nums.length q64)]) (ev rfl) Try.isAgg43 Try.sizeOf43 (Blk.cells hB67) rfl) rfl ?_
  refine seqn rfl rfl (does_store (n := 8) (cs := [(Iv 0), (Iv 0), (Iv 0), (Iv 0), (Iv 0), (Iv 0), (Iv 0), (.slice none 0 0)]) (u := (.agg #[(Iv A_a.kind), (Iv A_a.to), (Iv A_a.a), (Iv A_a.b), (Iv A_a.node.kind), (Iv A_a.node.a), (Iv A_a.node.b), (.slice p63 A_a.node.nums.length q64)])) (ev rfl) (ev rfl) Try.sizeOf43 rfl (((((((hB16.ext E26).wr W33 (Nat.ne_of_lt n29)).wr W38 (Nat.ne_of_lt n29)).wr W43 (Nat.ne_of_lt n29)).wr W48 (Nat.ne_of_lt n29)).ext E53).wr W66 (Nat.ne_of_lt n29)) (Nat.le_of_ble_eq_true rfl) rfl) ?_; rintro _ w73 ⟨rfl, W71, hB72⟩
  change Blk _ _ [(Iv A_a.kind), (Iv A_a.to), (Iv A_a.a), (Iv A_a.b), (Iv A_a.node.kind), (Iv A_a.node.a), (Iv A_a.node.b), (.slice p63 A_a.node.nums.length q64)] at hB72
  have X74 := Below.wr X69 W71 g20
  refine wpList_nil (hK70 _ _ ?_)
  refine wp_ret ?_
  refine ret_val (v := (.agg #[(Iv A_a.kind), (Iv A_a.to), (Iv A_a.a), (Iv A_a.b), (Iv A_a.node.kind), (Iv A_a.node.a), (Iv A_a.node.b), (.slice p63 A_a.node.nums.length q64)])) (res_C rfl (slot rfl) (run_loadAgg (cs := [(Iv A_a.kind), (Iv A_a.to), (Iv A_a.a), (Iv A_a.b), (Iv A_a.node.kind), (Iv A_a.node.a), (Iv A_a.node.b), (.slice p63 A_a.node.nums.length q64)]) Try.isAgg43 Try.sizeOf43 (Blk.cells hB72) rfl)) X74 ?_
  exact ⟨[(Iv A_a.kind), (Iv A_a.to), (Iv A_a.a), (Iv A_a.b), (Iv A_a.node.kind), (Iv A_a.node.a), (Iv A_a.node.b), (.slice p63 A_a.node.nums.length q64)], rfl, fun u hu => ⟨(.slice p63 A_a.node.nums.length q64), rfl, ((Hang.to hh65 (((Same.refl _ _).wr W66 (.inl n60)).wr W71 (.inl n59))).le (Below.size (Below.wr (Below.wr (Below.wr (Below.wr (Ext.gr (Ext.gr (Ext.gr (Ext.refl _) E10) E17) E26) W33 g30) W38 g30) W43 g30) W48 g30))) u hu⟩⟩

/- laws.toStepS -/
theorem c_laws_toStepS (a : Value) (L_a : List StepT) (w : World) (hv_a : Sl RStepT 8 w a L_a) (hsz : L_a.length ≤ 1048576) (hall : ∀ s ∈ L_a, s.node.nums.length ≤ 1048576) : Gives Try.prog 17 #[a] w (fun v w' => ∃ y_1 : Value, v = y_1 ∧ Hang w.heap.size w' (fun u => Sl RStepT 8 u y_1 L_a)) := by
  have hlen_a := Sl.len hv_a; obtain ⟨p_a, q_a, rfl⟩ := Sl.shape hv_a
  refine enter [(.slice p_a L_a.length q_a), Ud, Ud, Ud, Ud, Ud, Ud, Ud, Ud, Ud, Ud, Ud, Ud, Ud, Ud, Ud, Ud, Ud, Ud, Ud, Ud, Ud, Ud] Try.func17 rfl Try.ntmps17 rfl ?_
  refine wp_seq_k fun K1 hK1 => ?_
  refine wp_region_lit ?_
  refine q_is (l' := [(.slice p_a L_a.length q_a), Ud, (.slice none 0 0), Ud, Ud, Ud, Ud, Ud, Ud, Ud, Ud, Ud, Ud, Ud, Ud, Ud, Ud, Ud, Ud, Ud, Ud, Ud, Ud]) rfl rfl (does_assign (u := (.slice none 0 0)) (ev rfl)) rfl ?_
  refine wpList_nil (hK1 _ _ ?_)
  refine wp_seq_k fun K2 hK2 => ?_
  refine wp_region_lit ?_
  refine q_is (l' := [(.slice p_a L_a.length q_a), Ud, (.slice none 0 0), Ud, Ud, (.slice p_a L_a.length q_a), Ud, Ud, Ud, Ud, Ud, Ud, Ud, Ud, Ud, Ud, Ud, Ud, Ud, Ud, Ud, Ud, Ud]) rfl rfl (does_move (u := (.slice p_a L_a.length q_a)) (ev rfl)) rfl ?_
  refine q_is (l' := [(.slice p_a L_a.length q_a), Ud, (.slice none 0 0), Ud, Ud, (.slice p_a L_a.length q_a), (Iv (L_a.length : Int)), Ud, Ud, Ud, Ud, Ud, Ud, Ud, Ud, Ud, Ud, Ud, Ud, Ud, Ud, Ud, Ud]) rfl rfl (does_len_slice Try.underlying22 (ev rfl)) rfl ?_
  refine seqd rfl rfl (does_makeSlice (n := L_a.length) Try.underlying27 inf43 (ev rfl) (ev rfl) (by omega)) ?_; rintro _ w7 ⟨b3, rfl, hb4, ⟨cs8, hB5, hl9, hz10⟩, E6⟩
  have g11 : w.heap.size ≤ b3 := Nat.le_trans (Below.size (Ext.refl w)) hb4
  have X12 := Ext.gr (Ext.refl w) E6
  show wpList _ _ _ _ (fr [(.slice p_a L_a.length q_a), Ud, (.slice none 0 0), Ud, Ud, (.slice p_a L_a.length q_a), (Iv (L_a.length : Int)), (.slice (some ⟨b3, 0, none⟩) L_a.length L_a.length), Ud, Ud, Ud, Ud, Ud, Ud, Ud, Ud, Ud, Ud, Ud, Ud, Ud, Ud, Ud]) _
  refine q_is (l' := [(.slice p_a L_a.length q_a), Ud, (.slice none 0 0), (.slice (some ⟨b3, 0, none⟩) L_a.length L_a.length), Ud, (.slice p_a L_a.length q_a), (Iv (L_a.length : Int)), (.slice (some ⟨b3, 0, none⟩) L_a.length L_a.length), Ud, Ud, Ud, Ud, Ud, Ud, Ud, Ud, Ud, Ud, Ud, Ud, Ud, Ud, Ud]) rfl rfl (does_assign (u := (.slice (some ⟨b3, 0, none⟩) L_a.length L_a.length)) (ev rfl)) rfl ?_
  refine wpList_nil (hK2 _ _ ?_)
  refine wp_seq_k fun K13 hK13 => ?_
  refine wp_seq_k fun K14 hK14 => ?_
  refine wp_region_lit ?_
  refine q_is (l' := [(.slice p_a L_a.length q_a), Ud, (.slice none 0 0), (.slice (some ⟨b3, 0, none⟩) L_a.length L_a.length), (Iv 0), (.slice p_a L_a.length q_a), (Iv (L_a.length : Int)), (.slice (some ⟨b3, 0, none⟩) L_a.length L_a.length), Ud, Ud, Ud, Ud, Ud, Ud, Ud, Ud, Ud, Ud, Ud, Ud, Ud, Ud, Ud]) rfl rfl (does_assign (u := (Iv 0)) (ev rfl)) rfl ?_
  refine wpList_nil (hK14 _ _ ?_)
  refine wp_block ?_
  have hF0 : FillH RStepT 8 w7 b3 L_a.length L_a 0 := FillH.zero hB5 hl9
  refine loop_ghost (σ := Nat) (fun k a w' => ∃ u15 : Nat → Value, a = fr [(.slice p_a L_a.length q_a), Ud, (.slice none 0 0), (.slice (some ⟨b3, 0, none⟩) L_a.length L_a.length), (Iv (k : Int)), (.slice p_a L_a.length q_a), (Iv (L_a.length : Int)), (.slice (some ⟨b3, 0, none⟩) L_a.length L_a.length), (u15 8), (u15 9), (u15 10), (u15 11), (u15 12), (u15 13), (u15 14), (u15 15), (u15 16), (u15 17), (u15 18), (u15 19), (u15 20), (u15 21), Ud] ∧ KpL [b3] w7 w' ∧ FillH RStepT 8 w' b3 L_a.length L_a k ∧ (k ≤ L_a.length)) (fun k => L_a.length - k) 0 ?_ ?_
  · refine ⟨fun t => (([(.slice p_a L_a.length q_a), Ud, (.slice none 0 0), (.slice (some ⟨b3, 0, none⟩) L_a.length L_a.length), (Iv 0), (.slice p_a L_a.length q_a), (Iv (L_a.length : Int)), (.slice (some ⟨b3, 0, none⟩) L_a.length L_a.length), Ud, Ud, Ud, Ud, Ud, Ud, Ud, Ud, Ud, Ud, Ud, Ud, Ud, Ud, Ud] : List Value)[t]?).getD undef, rfl, KpL.refl _ _, hF0, ?_⟩
    exact Nat.zero_le _
  · rintro k a w16 ⟨u15, rfl, E17, hF18, hk⟩
    have X19 := Below.kl X12 E17 (allS g11 all0) (Nat.le_refl _)
    refine wp_seq_k fun K20 hK20 => ?_
    refine wp_seq_k fun K21 hK21 => ?_
    refine wp_region_lit ?_
    refine q_is (l' := [(.slice p_a L_a.length q_a), Ud, (.slice none 0 0), (.slice (some ⟨b3, 0, none⟩) L_a.length L_a.length), (Iv (k : Int)), (.slice p_a L_a.length q_a), (Iv (L_a.length : Int)), (.slice (some ⟨b3, 0, none⟩) L_a.length L_a.length), (Iv (k : Int)), (u15 9), (u15 10), (u15 11), (u15 12), (u15 13), (u15 14), (u15 15), (u15 16), (u15 17), (u15 18), (u15 19), (u15 20), (u15 21), Ud]) rfl rfl (does_move (u := (Iv (k : Int))) (ev rfl)) rfl ?_
    refine q_is (l' := [(.slice p_a L_a.length q_a), Ud, (.slice none 0 0), (.slice (some ⟨b3, 0, none⟩) L_a.length L_a.length), (Iv (k : Int)), (.slice p_a L_a.length q_a), (Iv (L_a.length : Int)), (.slice (some ⟨b3, 0, none⟩) L_a.length L_a.length), (Iv (k : Int)), (.slice p_a L_a.length q_a), (u15 10), (u15 11), (u15 12), (u15 13), (u15 14), (u15 15), (u15 16), (u15 17), (u15 18), (u15 19), (u15 20), (u15 21), Ud]) rfl rfl (does_move (u := (.slice p_a L_a.length q_a)) (ev rfl)) rfl ?_
    refine q_is (l' := [(.slice p_a L_a.length q_a), Ud, (.slice none 0 0), (.slice (some ⟨b3, 0, none⟩) L_a.length L_a.length), (Iv (k : Int)), (.slice p_a L_a.length q_a), (Iv (L_a.length : Int)), (.slice (some ⟨b3, 0, none⟩) L_a.length L_a.length), (Iv (k : Int)), (.slice p_a L_a.length q_a), (Iv (L_a.length : Int)), (u15 11), (u15 12), (u15 13), (u15 14), (u15 15), (u15 16), (u15 17), (u15 18), (u15 19), (u15 20), (u15 21), Ud]) rfl rfl (does_len_slice Try.underlying22 (ev rfl)) rfl ?_
    refine q_is (l' := [(.slice p_a L_a.length q_a), Ud, (.slice none 0 0), (.slice (some ⟨b3, 0, none⟩) L_a.length L_a.length), (Iv (k : Int)), (.slice p_a L_a.length q_a), (Iv (L_a.length : Int)), (.slice (some ⟨b3, 0, none⟩) L_a.length L_a.length), (Iv (k : Int)), (.slice p_a L_a.length q_a), (Iv (L_a.length : Int)), (Bo (icmp .lss (k : Int) (L_a.length : Int))), (u15 12), (u15 13), (u15 14), (u15 15), (u15 16), (u15 17), (u15 18), (u15 19), (u15 20), (u15 21), Ud]) rfl rfl (does_icmp (p := (k : Int)) (q := (L_a.length : Int)) (.inr (.inr (.inl rfl))) (ev rfl) (ev rfl)) rfl ?_
    refine wpList_nil (hK21 _ _ ?_)
    refine wp_cond_split (t := icmp .lss (k : Int) (L_a.length : Int)) (ev rfl) (fun c22 => ?_) (fun c22 => ?_)
    · have c22' := c22
      (try simp only [icmp, Bool.and_eq_true, Bool.or_eq_true, Bool.and_eq_false_iff, Bool.or_eq_false_iff, Bool.not_eq_true', Bool.not_eq_false', decide_eq_true_eq, decide_eq_false_iff_not, beq_iff_eq, bne_iff_ne, beq_eq_false_iff_ne, bne_eq_false_iff_eq] at c22')
      refine wp_skip (hK20 _ _ ?_)
      refine wp_seq_k fun K23 hK23 => ?_
      refine wp_block ?_
      refine wp_region_lit ?_
      refine q_is (l' := [(.slice p_a L_a.length q_a), Ud, (.slice none 0 0), (.slice (some ⟨b3, 0, none⟩) L_a.length L_a.length), (Iv (k : Int)), (.slice p_a L_a.length q_a), (Iv (L_a.length : Int)), (.slice (some ⟨b3, 0, none⟩) L_a.length L_a.length), (Iv (k : Int)), (.slice p_a L_a.length q_a), (Iv (L_a.length : Int)), (Bo (icmp .lss (k : Int) (L_a.length : Int))), (u15 12), (u15 13), (.slice (some ⟨b3, 0, none⟩) L_a.length L_a.length), (u15 15), (u15 16), (u15 17), (u15 18), (u15 19), (u15 20), (u15 21), Ud]) rfl rfl (does_move (u := (.slice (some ⟨b3, 0, none⟩) L_a.length L_a.length)) (ev rfl)) rfl ?_
      refine q_is (l' := [(.slice p_a L_a.length q_a), Ud, (.slice none 0 0), (.slice (some ⟨b3, 0, none⟩) L_a.length L_a.length), (Iv (k : Int)), (.slice p_a L_a.length q_a), (Iv (L_a.length : Int)), (.slice (some ⟨b3, 0, none⟩) L_a.length L_a.length), (Iv (k : Int)), (.slice p_a L_a.length q_a), (Iv (L_a.length : Int)), (Bo (icmp .lss (k : Int) (L_a.length : Int))), (u15 12), (u15 13), (.slice (some ⟨b3, 0, none⟩) L_a.length L_a.length), (Iv (k : Int)), (u15 16), (u15 17), (u15 18), (u15 19), (u15 20), (u15 21), Ud]) rfl rfl (does_move (u := (Iv (k : Int))) (ev rfl)) rfl ?_
      refine q_is (l' := [(.slice p_a L_a.length q_a), Ud, (.slice none 0 0), (.slice (some ⟨b3, 0, none⟩) L_a.length L_a.length), (Iv (k : Int)), (.slice p_a L_a.length q_a), (Iv (L_a.length : Int)), (.slice (some ⟨b3, 0, none⟩) L_a.length L_a.length), (Iv (k : Int)), (.slice p_a L_a.length q_a), (Iv (L_a.length : Int)), (Bo (icmp .lss (k : Int) (L_a.length : Int))), (u15 12), (u15 13), (.slice (some ⟨b3, 0, none⟩) L_a.length L_a.length), (Iv (k : Int)), (.slice p_a L_a.length q_a), (u15 17), (u15 18), (u15 19), (u15 20), (u15 21), Ud]) rfl rfl (does_move (u := (.slice p_a L_a.length q_a)) (ev rfl)) rfl ?_
      refine q_is (l' := [(.slice p_a L_a.length q_a), Ud, (.slice none 0 0), (.slice (some ⟨b3, 0, none⟩) L_a.length L_a.length), (Iv (k : Int)), (.slice p_a L_a.length q_a), (Iv (L_a.length : Int)), (.slice (some ⟨b3, 0, none⟩) L_a.length L_a.length), (Iv (k : Int)), (.slice p_a L_a.length q_a), (Iv (L_a.length : Int)), (Bo (icmp .lss (k : Int) (L_a.length : Int))), (u15 12), (u15 13), (.slice (some ⟨b3, 0, none⟩) L_a.length L_a.length), (Iv (k : Int)), (.slice p_a L_a.length q_a), (Iv (k : Int)), (u15 18), (u15 19), (u15 20), (u15 21), Ud]) rfl rfl (does_move (u := (Iv (k : Int))) (ev rfl)) rfl ?_
      obtain ⟨el1, hel1⟩ : ∃ e, L_a[k]? = some e := ⟨_, List.getElem?_eq_getElem (by omega)⟩
      refine seqd rfl rfl (does_indexSl (R := RStepT) (i := (k : Int)) (xs := L_a) (e := el1) Try.underlying22 Try.sizeOf57 (ev rfl) (ev rfl) (Sl.ext hv_a RStepT.mono X19) (by omega) hel1) ?_; rintro _ w16 ⟨b24, o25, _, rfl, hc27, ⟨y28, rfl, h29⟩, rfl⟩
      have hs32 := h29; have hs32l := Sl.len h29; obtain ⟨p30, q31, rfl⟩ := Sl.shape h29
      show wpList _ _ _ _ (fr [(.slice p_a L_a.length q_a), Ud, (.slice none 0 0), (.slice (some ⟨b3, 0, none⟩) L_a.length L_a.length), (Iv (k : Int)), (.slice p_a L_a.length q_a), (Iv (L_a.length : Int)), (.slice (some ⟨b3, 0, none⟩) L_a.length L_a.length), (Iv (k : Int)), (.slice p_a L_a.length q_a), (Iv (L_a.length : Int)), (Bo (icmp .lss (k : Int) (L_a.length : Int))), (u15 12), (u15 13), (.slice (some ⟨b3, 0, none⟩) L_a.length L_a.length), (Iv (k : Int)), (.slice p_a L_a.length q_a), (Iv (k : Int)), (Pt b24 o25), (u15 19), (u15 20), (u15 21), Ud]) _
      refine q_is (l' := [(.slice p_a L_a.length q_a), Ud, (.slice none 0 0), (.slice (some ⟨b3, 0, none⟩) L_a.length L_a.length), (Iv (k : Int)), (.slice p_a L_a.length q_a), (Iv (L_a.length : Int)), (.slice (some ⟨b3, 0, none⟩) L_a.length L_a.length), (Iv (k : Int)), (.slice p_a L_a.length q_a), (Iv (L_a.length : Int)), (Bo (icmp .lss (k : Int) (L_a.length : Int))), (u15 12), (u15 13), (.slice (some ⟨b3, 0, none⟩) L_a.length L_a.length), (Iv (k : Int)), (.slice p_a L_a.length q_a), (Iv (k : Int)), (Pt b24 o25), (.agg #[(Iv el1.kind), (Iv el1.to), (Iv el1.a), (Iv el1.b), (Iv el1.node.kind), (Iv el1.node.a), (Iv el1.node.b), (.slice p30 el1.node.nums.length q31)]), (u15 20), (u15 21), Ud]) rfl rfl (does_loadAgg (cs := [(Iv el1.kind), (Iv el1.to), (Iv el1.a), (Iv el1.b), (Iv el1.node.kind), (Iv el1.node.a), (Iv el1.node.b), (.slice p30 el1.node.nums.length q31)]) (ev rfl) Try.isAgg57 Try.sizeOf57 hc27 rfl) rfl ?_
      refine seqd rfl rfl (does_call (args := #[(.agg #[(Iv el1.kind), (Iv el1.to), (Iv el1.a), (Iv el1.b), (Iv el1.node.kind), (Iv el1.node.a), (Iv el1.node.b), (.slice p30 el1.node.nums.length q31)])]) cal30 (evs rfl) (c_laws_toStep [(Iv el1.kind), (Iv el1.to), (Iv el1.a), (Iv el1.b), (Iv el1.node.kind), (Iv el1.node.a), (Iv el1.node.b), (.slice p30 el1.node.nums.length q31)] el1 _ ⟨(.slice p30 el1.node.nums.length q31), rfl, hs32⟩ (by exact hall _ (List.mem_of_getElem? (by assumption))))) ?_; rintro _ w34 ⟨E33, ⟨cs36, rfl, hh35⟩⟩
      have X37 := Ext.gr X19 E33
      obtain ⟨y39, rfl, h40⟩ := hh35.get
      have h40l := Sl.len h40; obtain ⟨p41, q42, rfl⟩ := Sl.shape h40
      have hh43 : Hang w16.heap.size w34 (fun u => Sl RF 1 u (.slice p41 el1.node.nums.length q42) el1.node.nums) := fun u hu => by obtain ⟨_, hq, _⟩ := hh35 u hu; cases hq; assumption
      show wpList _ _ _ _ (fr [(.slice p_a L_a.length q_a), Ud, (.slice none 0 0), (.slice (some ⟨b3, 0, none⟩) L_a.length L_a.length), (Iv (k : Int)), (.slice p_a L_a.length q_a), (Iv (L_a.length : Int)), (.slice (some ⟨b3, 0, none⟩) L_a.length L_a.length), (Iv (k : Int)), (.slice p_a L_a.length q_a), (Iv (L_a.length : Int)), (Bo (icmp .lss (k : Int) (L_a.length : Int))), (u15 12), (u15 13), (.slice (some ⟨b3, 0, none⟩) L_a.length L_a.length), (Iv (k : Int)), (.slice p_a L_a.length q_a), (Iv (k : Int)), (Pt b24 o25), (.agg #[(Iv el1.kind), (Iv el1.to), (Iv el1.a), (Iv el1.b), (Iv el1.node.kind), (Iv el1.node.a), (Iv el1.node.b), (.slice p30 el1.node.nums.length q31)]), (.agg #[(Iv el1.kind), (Iv el1.to), (Iv el1.a), (Iv el1.b), (Iv el1.node.kind), (Iv el1.node.a), (Iv el1.node.b), (.slice p41 el1.node.nums.length q42)]), (u15 21), Ud]) _
      refine q_is (l' := [(.slice p_a L_a.length q_a), Ud, (.slice none 0 0), (.slice (some ⟨b3, 0, none⟩) L_a.length L_a.length), (Iv (k : Int)), (.slice p_a L_a.length q_a), (Iv (L_a.length : Int)), (.slice (some ⟨b3, 0, none⟩) L_a.length L_a.length), (Iv (k : Int)), (.slice p_a L_a.length q_a), (Iv (L_a.length : Int)), (Bo (icmp .lss (k : Int) (L_a.length : Int))), (u15 12), (u15 13), (.slice (some ⟨b3, 0, none⟩) L_a.length L_a.length), (Iv (k : Int)), (.slice p_a L_a.length q_a), (Iv (k : Int)), (Pt b24 o25), (.agg #[(Iv el1.kind), (Iv el1.to), (Iv el1.a), (Iv el1.b), (Iv el1.node.kind), (Iv el1.node.a), (Iv el1.node.b), (.slice p30 el1.node.nums.length q31)]), (.agg #[(Iv el1.kind), (Iv el1.to), (Iv el1.a), (Iv el1.b), (Iv el1.node.kind), (Iv el1.node.a), (Iv el1.node.b), (.slice p41 el1.node.nums.length q42)]), (Pt b3 (k * 8)), Ud]) rfl rfl (does_indexOwn (b := b3) (n := L_a.length) (i := (k : Int)) Try.underlying27 Try.sizeOf43 (ev rfl) (ev rfl) (by omega) (by omega)) rfl ?_
      have hh44 := Hang.le hh43 (Nat.succ_le_of_lt (FillH.lt hF18))
      refine seqn rfl rfl (does_fillH (R := RStepT) (k := 8) (n := L_a.length) (j := k) (xs := L_a) (u := (.agg #[(Iv el1.kind), (Iv el1.to), (Iv el1.a), (Iv el1.b), (Iv el1.node.kind), (Iv el1.node.a), (Iv el1.node.b), (.slice p41 el1.node.nums.length q42)])) (e := el1) (ev rfl) (ev rfl) Try.sizeOf43 rfl rfl (FillH.ext hF18 RStepT.mono E33) (by omega) hel1 (fun u hu => ⟨(.slice p41 el1.node.nums.length q42), rfl, (hh44 u hu)⟩)) ?_; rintro _ w47 ⟨rfl, W45, hF46⟩
      have X48 := Below.wr X37 W45 g11
      refine wpList_nil (hK23 _ _ ?_)
      refine wp_region_lit ?_
      refine q_is (l' := [(.slice p_a L_a.length q_a), Ud, (.slice none 0 0), (.slice (some ⟨b3, 0, none⟩) L_a.length L_a.length), (Iv (k : Int)), (.slice p_a L_a.length q_a), (Iv (L_a.length : Int)), (.slice (some ⟨b3, 0, none⟩) L_a.length L_a.length), (Iv (k : Int)), (.slice p_a L_a.length q_a), (Iv (L_a.length : Int)), (Bo (icmp .lss (k : Int) (L_a.length : Int))), (Iv (k : Int)), (u15 13), (.slice (some ⟨b3, 0, none⟩) L_a.length L_a.length), (Iv (k : Int)), (.slice p_a L_a.length q_a), (Iv (k : Int)), (Pt b24 o25), (.agg #[(Iv el1.kind), (Iv el1.to), (Iv el1.a), (Iv el1.b), (Iv el1.node.kind), (Iv el1.node.a), (Iv el1.node.b), (.slice p30 el1.node.nums.length q31)]), (.agg #[(Iv el1.kind), (Iv el1.to), (Iv el1.a), (Iv el1.b), (Iv el1.node.kind), (Iv el1.node.a), (Iv el1.node.b), (.slice p41 el1.node.nums.length q42)]), (Pt b3 (k * 8)), Ud]) rfl rfl (does_move (u := (Iv (k : Int))) (ev rfl)) rfl ?_
      refine q_is (l' := [(.slice p_a L_a.length q_a), Ud, (.slice none 0 0), (.slice (some ⟨b3, 0, none⟩) L_a.length L_a.length), (Iv (k : Int)), (.slice p_a L_a.length q_a), (Iv (L_a.length : Int)), (.slice (some ⟨b3, 0, none⟩) L_a.length L_a.length), (Iv (k : Int)), (.slice p_a L_a.length q_a), (Iv (L_a.length : Int)), (Bo (icmp .lss (k : Int) (L_a.length : Int))), (Iv (k : Int)), (Iv ((k : Int) + 1)), (.slice (some ⟨b3, 0, none⟩) L_a.length L_a.length), (Iv (k : Int)), (.slice p_a L_a.length q_a), (Iv (k : Int)), (Pt b24 o25), (.agg #[(Iv el1.kind), (Iv el1.to), (Iv el1.a), (Iv el1.b), (Iv el1.node.kind), (Iv el1.node.a), (Iv el1.node.b), (.slice p30 el1.node.nums.length q31)]), (.agg #[(Iv el1.kind), (Iv el1.to), (Iv el1.a), (Iv el1.b), (Iv el1.node.kind), (Iv el1.node.a), (Iv el1.node.b), (.slice p41 el1.node.nums.length q42)]), (Pt b3 (k * 8)), Ud]) rfl rfl (does_iarith (p := (k : Int)) (q := 1) (r := (k : Int) + 1) (ev rfl) (ev rfl) (.inl ⟨rfl, (in_i64 (by omega) (by omega)).symm⟩)) rfl ?_
      refine q_is (l' := [(.slice p_a L_a.length q_a), Ud, (.slice none 0 0), (.slice (some ⟨b3, 0, none⟩) L_a.length L_a.length), (Iv ((k : Int) + 1)), (.slice p_a L_a.length q_a), (Iv (L_a.length : Int)), (.slice (some ⟨b3, 0, none⟩) L_a.length L_a.length), (Iv (k : Int)), (.slice p_a L_a.length q_a), (Iv (L_a.length : Int)), (Bo (icmp .lss (k : Int) (L_a.length : Int))), (Iv (k : Int)), (Iv ((k : Int) + 1)), (.slice (some ⟨b3, 0, none⟩) L_a.length L_a.length), (Iv (k : Int)), (.slice p_a L_a.length q_a), (Iv (k : Int)), (Pt b24 o25), (.agg #[(Iv el1.kind), (Iv el1.to), (Iv el1.a), (Iv el1.b), (Iv el1.node.kind), (Iv el1.node.a), (Iv el1.node.b), (.slice p30 el1.node.nums.length q31)]), (.agg #[(Iv el1.kind), (Iv el1.to), (Iv el1.a), (Iv el1.b), (Iv el1.node.kind), (Iv el1.node.a), (Iv el1.node.b), (.slice p41 el1.node.nums.length q42)]), (Pt b3 (k * 8)), Ud]) rfl rfl (does_assign (u := (Iv ((k : Int) + 1))) (ev rfl)) rfl ?_
      refine wpList_nil ?_
      refine ⟨k + 1, ⟨fun t => (([(.slice p_a L_a.length q_a), Ud, (.slice none 0 0), (.slice (some ⟨b3, 0, none⟩) L_a.length L_a.length), (Iv ((k : Int) + 1)), (.slice p_a L_a.length q_a), (Iv (L_a.length : Int)), (.slice (some ⟨b3, 0, none⟩) L_a.length L_a.length), (Iv (k : Int)), (.slice p_a L_a.length q_a), (Iv (L_a.length : Int)), (Bo (icmp .lss (k : Int) (L_a.length : Int))), (Iv (k : Int)), (Iv ((k : Int) + 1)), (.slice (some ⟨b3, 0, none⟩) L_a.length L_a.length), (Iv (k : Int)), (.slice p_a L_a.length q_a), (Iv (k : Int)), (Pt b24 o25), (.agg #[(Iv el1.kind), (Iv el1.to), (Iv el1.a), (Iv el1.b), (Iv el1.node.kind), (Iv el1.node.a), (Iv el1.node.b), (.slice p30 el1.node.nums.length q31)]), (.agg #[(Iv el1.kind), (Iv el1.to), (Iv el1.a), (Iv el1.b), (Iv el1.node.kind), (Iv el1.node.a), (Iv el1.node.b), (.slice p41 el1.node.nums.length q42)]), (Pt b3 (k * 8)), Ud] : List Value)[t]?).getD undef, ?_, (KpL.more (KpL.ext E17 E33) (KpL.of_wr W45) (allS (.inl (by simp)) all0)), hF46, ?_⟩, ?_⟩
      · first | rfl | (simp only [Nat.cast_add, Nat.cast_one, Int.natCast_add, Int.natCast_one]; rfl)
      · omega
      · omega
    have c22' := c22
    (try simp only [icmp, Bool.and_eq_true, Bool.or_eq_true, Bool.and_eq_false_iff, Bool.or_eq_false_iff, Bool.not_eq_true', Bool.not_eq_false', decide_eq_true_eq, decide_eq_false_iff_not, beq_iff_eq, bne_iff_ne, beq_eq_false_iff_ne, bne_eq_false_iff_eq] at c22')
    refine wp_exit ?_
    refine hK13 _ _ ?_
    refine wp_seq_k fun K49 hK49 => ?_
    refine wp_region_lit ?_
    refine q_is (l' := [(.slice p_a L_a.length q_a), Ud, (.slice none 0 0), (.slice (some ⟨b3, 0, none⟩) L_a.length L_a.length), (Iv (k : Int)), (.slice p_a L_a.length q_a), (Iv (L_a.length : Int)), (.slice (some ⟨b3, 0, none⟩) L_a.length L_a.length), (Iv (k : Int)), (.slice p_a L_a.length q_a), (Iv (L_a.length : Int)), (Bo (icmp .lss (k : Int) (L_a.length : Int))), (u15 12), (u15 13), (u15 14), (u15 15), (u15 16), (u15 17), (u15 18), (u15 19), (u15 20), (u15 21), (.slice (some ⟨b3, 0, none⟩) L_a.length L_a.length)]) rfl rfl (does_move (u := (.slice (some ⟨b3, 0, none⟩) L_a.length L_a.length)) (ev rfl)) rfl ?_
    refine q_is (l' := [(.slice p_a L_a.length q_a), Ud, (.slice (some ⟨b3, 0, none⟩) L_a.length L_a.length), (.slice (some ⟨b3, 0, none⟩) L_a.length L_a.length), (Iv (k : Int)), (.slice p_a L_a.length q_a), (Iv (L_a.length : Int)), (.slice (some ⟨b3, 0, none⟩) L_a.length L_a.length), (Iv (k : Int)), (.slice p_a L_a.length q_a), (Iv (L_a.length : Int)), (Bo (icmp .lss (k : Int) (L_a.length : Int))), (u15 12), (u15 13), (u15 14), (u15 15), (u15 16), (u15 17), (u15 18), (u15 19), (u15 20), (u15 21), (.slice (some ⟨b3, 0, none⟩) L_a.length L_a.length)]) rfl rfl (does_assign (u := (.slice (some ⟨b3, 0, none⟩) L_a.length L_a.length)) (ev rfl)) rfl ?_
    refine wpList_nil (hK49 _ _ ?_)
    refine wp_ret ?_
    refine ret_val (v := (.slice (some ⟨b3, 0, none⟩) L_a.length L_a.length)) (res_T rfl (slot rfl)) X19 ?_
    exact ⟨(.slice (some ⟨b3, 0, none⟩) L_a.length L_a.length), rfl, (FillH.hang hF18 g11 (by omega) rfl (by omega) (by decide))⟩

/- laws.toProgram -/
theorem c_laws_toProgram (a : List Value) (A_a : ProgT) (w : World) (hv_a : RProgT w A_a a) (hst : stTot A_a.steps ≤ 1048576) : Gives Try.prog 7 #[(.agg a.toArray)] w (fun v w' => ∃ cs_1 : List Value, v = (.agg cs_1.toArray) ∧ Hang w.heap.size w' (fun u => RProgT u A_a cs_1)) := by
  obtain ⟨y1, rfl, h2⟩ := hv_a
  have hs5 := h2; have hs5l := Sl.len h2; obtain ⟨p3, q4, rfl⟩ := Sl.shape h2
  have hse := stTot_each hst
  refine enter [(.agg #[(Iv A_a.points), (Iv A_a.values), (.slice p3 A_a.steps.length q4)]), Ud, Ud, Ud, Ud, Ud, Ud, Ud, Ud, Ud, Ud, Ud, Ud, Ud, Ud] Try.func7 rfl Try.ntmps7 rfl ?_
  refine wp_seq_k fun K6 hK6 => ?_
  refine wp_region_lit ?_
  refine seqd rfl rfl (does_box (u := (.agg #[(Iv A_a.points), (Iv A_a.values), (.slice p3 A_a.steps.length q4)])) (ev rfl)) ?_; rintro _ w11 ⟨b7, rfl, hb8, hB9, E10⟩
  have g12 : w.heap.size ≤ b7 := Nat.le_trans (Below.size (Ext.refl w)) hb8
  change Blk _ _ [(Iv A_a.points), (Iv A_a.values), (.slice p3 A_a.steps.length q4)] at hB9
  have X13 := Ext.gr (Ext.refl w) E10
  show wpList _ _ _ _ (fr [(.agg #[(Iv A_a.points), (Iv A_a.values), (.slice p3 A_a.steps.length q4)]), (Pt b7 0), Ud, Ud, Ud, Ud, Ud, Ud, Ud, Ud, Ud, Ud, Ud, Ud, Ud]) _
  refine seqd rfl rfl (does_alloc z29) ?_; rintro _ w18 ⟨b14, rfl, hb15, hB16, E17⟩
  have n19 : b7 < b14 := Nat.lt_of_lt_of_le (Blk.lt hB9) hb15
  have g20 : w.heap.size ≤ b14 := Nat.le_trans (Below.size X13) hb15
  change Blk _ _ [(Iv 0), (Iv 0), (.slice none 0 0)] at hB16
  have X21 := Ext.gr X13 E17
  show wpList _ _ _ _ (fr [(.agg #[(Iv A_a.points), (Iv A_a.values), (.slice p3 A_a.steps.length q4)]), (Pt b7 0), (Pt b14 0), Ud, Ud, Ud, Ud, Ud, Ud, Ud, Ud, Ud, Ud, Ud, Ud]) _
  refine wpList_nil (hK6 _ _ ?_)
  refine wp_seq_k fun K22 hK22 => ?_
  refine wp_region_lit ?_
  refine seqd rfl rfl (does_alloc z29) ?_; rintro _ w27 ⟨b23, rfl, hb24, hB25, E26⟩
  have n28 : b7 < b23 := Nat.lt_of_lt_of_le (Blk.lt (hB9.ext E17)) hb24
  have n29 : b14 < b23 := Nat.lt_of_lt_of_le (Blk.lt hB16) hb24
  have g30 : w.heap.size ≤ b23 := Nat.le_trans (Below.size X21) hb24
  change Blk _ _ [(Iv 0), (Iv 0), (.slice none 0 0)] at hB25
  have X31 := Ext.gr X21 E26
  show wpList _ _ _ _ (fr [(.agg #[(Iv A_a.points), (Iv A_a.values), (.slice p3 A_a.steps.length q4)]), (Pt b7 0), (Pt b14 0), (Pt b23 0), Ud, Ud, Ud, Ud, Ud, Ud, Ud, Ud, Ud, Ud, Ud]) _
  refine wpList_nil (hK22 _ _ ?_)
  refine wp_seq_k fun K32 hK32 => ?_
  refine wp_region_lit ?_
  refine q_is (l' := [(.agg #[(Iv A_a.points), (Iv A_a.values), (.slice p3 A_a.steps.length q4)]), (Pt b7 0), (Pt b14 0), (Pt b23 0), (Pt b7 0), Ud, Ud, Ud, Ud, Ud, Ud, Ud, Ud, Ud, Ud]) rfl rfl (does_fieldAddr (ev rfl) fa24_0) rfl ?_
  refine q_is (l' := [(.agg #[(Iv A_a.points), (Iv A_a.values), (.slice p3 A_a.steps.length q4)]), (Pt b7 0), (Pt b14 0), (Pt b23 0), (Pt b7 0), (Iv A_a.points), Ud, Ud, Ud, Ud, Ud, Ud, Ud, Ud, Ud]) rfl rfl (does_load (u := (Iv A_a.points)) (ev rfl) Try.isAgg2 (Cells.at (Blk.cells ((hB9.ext E17).ext E26)) 0 rfl)) rfl ?_
  refine q_is (l' := [(.agg #[(Iv A_a.points), (Iv A_a.values), (.slice p3 A_a.steps.length q4)]), (Pt b7 0), (Pt b14 0), (Pt b23 0), (Pt b7 0), (Iv A_a.points), (Pt b23 0), Ud, Ud, Ud, Ud, Ud, Ud, Ud, Ud]) rfl rfl (does_fieldAddr (ev rfl) fa29_0) rfl ?_
  refine seqn rfl rfl (does_store (n := 1) (cs := [(Iv 0), (Iv 0), (.slice none 0 0)]) (u := (Iv A_a.points)) (ev rfl) (ev rfl) Try.sizeOf2 rfl hB25 (Nat.le_of_ble_eq_true rfl) rfl) ?_; rintro _ w35 ⟨rfl, W33, hB34⟩
  change Blk _ _ [(Iv A_a.points), (Iv 0), (.slice none 0 0)] at hB34
  have X36 := Below.wr X31 W33 g30
  refine wpList_nil (hK32 _ _ ?_)
  refine wp_seq_k fun K37 hK37 => ?_
  refine wp_region_lit ?_
  refine q_is (l' := [(.agg #[(Iv A_a.points), (Iv A_a.values), (.slice p3 A_a.steps.length q4)]), (Pt b7 0), (Pt b14 0), (Pt b23 0), (Pt b7 0), (Iv A_a.points), (Pt b23 0), (Pt b7 1), Ud, Ud, Ud, Ud, Ud, Ud, Ud]) rfl rfl (does_fieldAddr (ev rfl) fa24_1) rfl ?_
  refine q_is (l' := [(.agg #[(Iv A_a.points), (Iv A_a.values), (.slice p3 A_a.steps.length q4)]), (Pt b7 0), (Pt b14 0), (Pt b23 0), (Pt b7 0), (Iv A_a.points), (Pt b23 0), (Pt b7 1), (Iv A_a.values), Ud, Ud, Ud, Ud, Ud, Ud]) rfl rfl (does_load (u := (Iv A_a.values)) (ev rfl) Try.isAgg2 (Cells.at (Blk.cells (((hB9.ext E17).ext E26).wr W33 (Nat.ne_of_lt n28))) 1 rfl)) rfl ?_
  refine q_is (l' := [(.agg #[(Iv A_a.points), (Iv A_a.values), (.slice p3 A_a.steps.length q4)]), (Pt b7 0), (Pt b14 0), (Pt b23 0), (Pt b7 0), (Iv A_a.points), (Pt b23 0), (Pt b7 1), (Iv A_a.values), (Pt b23 1), Ud, Ud, Ud, Ud, Ud]) rfl rfl (does_fieldAddr (ev rfl) fa29_1) rfl ?_
  refine seqn rfl rfl (does_store (n := 1) (cs := [(Iv A_a.points), (Iv 0), (.slice none 0 0)]) (u := (Iv A_a.values)) (ev rfl) (ev rfl) Try.sizeOf2 rfl hB34 (Nat.le_of_ble_eq_true rfl) rfl) ?_; rintro _ w40 ⟨rfl, W38, hB39⟩
  change Blk _ _ [(Iv A_a.points), (Iv A_a.values), (.slice none 0 0)] at hB39
  have X41 := Below.wr X36 W38 g30
  refine wpList_nil (hK37 _ _ ?_)
  refine wp_seq_k fun K42 hK42 => ?_
  refine wp_region_lit ?_
  refine q_is (l' := [(.agg #[(Iv A_a.points), (Iv A_a.values), (.slice p3 A_a.steps.length q4)]), (Pt b7 0), (Pt b14 0), (Pt b23 0), (Pt b7 0), (Iv A_a.points), (Pt b23 0), (Pt b7 1), (Iv A_a.values), (Pt b23 1), (Pt b7 2), Ud, Ud, Ud, Ud]) rfl rfl (does_fieldAddr (ev rfl) fa24_2) rfl ?_
  refine q_is (l' := [(.agg #[(Iv A_a.points), (Iv A_a.values), (.slice p3 A_a.steps.length q4)]), (Pt b7 0), (Pt b14 0), (Pt b23 0), (Pt b7 0), (Iv A_a.points), (Pt b23 0), (Pt b7 1), (Iv A_a.values), (Pt b23 1), (Pt b7 2), (.slice p3 A_a.steps.length q4), Ud, Ud, Ud]) rfl rfl (does_load (u := (.slice p3 A_a.steps.length q4)) (ev rfl) Try.isAgg22 (Cells.at (Blk.cells ((((hB9.ext E17).ext E26).wr W33 (Nat.ne_of_lt n28)).wr W38 (Nat.ne_of_lt n28))) 2 rfl)) rfl ?_
  refine seqd rfl rfl (does_call (args := #[(.slice p3 A_a.steps.length q4)]) cal17 (evs rfl) (c_laws_toStepS (.slice p3 A_a.steps.length q4) A_a.steps _ (Sl.ext hs5 RStepT.mono X41) (by exact hse.1) (by exact hse.2))) ?_; rintro _ w44 ⟨E43, ⟨y46, rfl, hh45⟩⟩
  have X47 := Ext.gr X41 E43
  have n48 : b7 < w40.heap.size := Blk.lt ((((hB9.ext E17).ext E26).wr W33 (Nat.ne_of_lt n28)).wr W38 (Nat.ne_of_lt n28))
  have n49 : b14 < w40.heap.size := Blk.lt (((hB16.ext E26).wr W33 (Nat.ne_of_lt n29)).wr W38 (Nat.ne_of_lt n29))
  have n50 : b23 < w40.heap.size := Blk.lt hB39
  obtain ⟨p51, q52, rfl⟩ := Sl.shape hh45.get
  show wpList _ _ _ _ (fr [(.agg #[(Iv A_a.points), (Iv A_a.values), (.slice p3 A_a.steps.length q4)]), (Pt b7 0), (Pt b14 0), (Pt b23 0), (Pt b7 0), (Iv A_a.points), (Pt b23 0), (Pt b7 1), (Iv A_a.values), (Pt b23 1), (Pt b7 2), (.slice p3 A_a.steps.length q4), (.slice p51 A_a.steps.length q52), Ud, Ud]) _
  refine q_is (l' := [(.agg #[(Iv A_a.points), (Iv A_a.values), (.slice p3 A_a.steps.length q4)]), (Pt b7 0), (Pt b14 0), (Pt b23 0), (Pt b7 0), (Iv A_a.points), (Pt b23 0), (Pt b7 1), (Iv A_a.values), (Pt b23 1), (Pt b7 2), (.slice p3 A_a.steps.length q4), (.slice p51 A_a.steps.length q52), (Pt b23 2), Ud]) rfl rfl (does_fieldAddr (ev rfl) fa29_2) rfl ?_
  refine seqn rfl rfl (does_store (n := 1) (cs := [(Iv A_a.points), (Iv A_a.values), (.slice none 0 0)]) (u := (.slice p51 A_a.steps.length q52)) (ev rfl) (ev rfl) Try.sizeOf27 rfl (hB39.ext E43) (Nat.le_of_ble_eq_true rfl) rfl) ?_; rintro _ w55 ⟨rfl, W53, hB54⟩
  change Blk _ _ [(Iv A_a.points), (Iv A_a.values), (.slice p51 A_a.steps.length q52)] at hB54
  have X56 := Below.wr X47 W53 g30
  refine wpList_nil (hK42 _ _ ?_)
  refine wp_seq_k fun K57 hK57 => ?_
  refine wp_region_lit ?_
  refine q_is (l' := [(.agg #[(Iv A_a.points), (Iv A_a.values), (.slice p3 A_a.steps.length q4)]), (Pt b7 0), (Pt b14 0), (Pt b23 0), (Pt b7 0), (Iv A_a.points), (Pt b23 0), (Pt b7 1), (Iv A_a.values), (Pt b23 1), (Pt b7 2), (.slice p3 A_a.steps.length q4), (.slice p51 A_a.steps.length q52), (Pt b23 2), (.agg #[(Iv A_a.points), (Iv A_a.values), (.slice p51 A_a.steps.length q52)])]) rfl rfl (does_loadAgg (cs := [(Iv A_a.points), (Iv A_a.values), (.slice p51 A_a.steps.length q52)]) (ev rfl) Try.isAgg29 Try.sizeOf29 (Blk.cells hB54) rfl) rfl ?_
  refine seqn rfl rfl (does_store (n := 3) (cs := [(Iv 0), (Iv 0), (.slice none 0 0)]) (u := (.agg #[(Iv A_a.points), (Iv A_a.values), (.slice p51 A_a.steps.length q52)])) (ev rfl) (ev rfl) Try.sizeOf29 rfl (((((hB16.ext E26).wr W33 (Nat.ne_of_lt n29)).wr W38 (Nat.ne_of_lt n29)).ext E43).wr W53 (Nat.ne_of_lt n29)) (Nat.le_of_ble_eq_true rfl) rfl) ?_; rintro _ w60 ⟨rfl, W58, hB59⟩
  change Blk _ _ [(Iv A_a.points), (Iv A_a.values), (.slice p51 A_a.steps.length q52)] at hB59
  have X61 := Below.wr X56 W58 g20
  refine wpList_nil (hK57 _ _ ?_)
  refine wp_ret ?_
  refine ret_val (v := (.agg #[(Iv A_a.points), (Iv A_a.values), (.slice p51 A_a.steps.length q52)])) (res_C rfl (slot rfl) (run_loadAgg (cs := [(Iv A_a.points), (Iv A_a.values), (.slice p51 A_a.steps.length q52)]) Try.isAgg29 Try.sizeOf29 (Blk.cells hB59) rfl)) X61 ?_
  exact ⟨[(Iv A_a.points), (Iv A_a.values), (.slice p51 A_a.steps.length q52)], rfl, fun u hu => ⟨(.slice p51 A_a.steps.length q52), rfl, ((Hang.to hh45 (((Same.refl _ _).wr W53 (.inl n50)).wr W58 (.inl n49))).le (Below.size (Below.wr (Below.wr (Ext.gr (Ext.gr (Ext.gr (Ext.refl _) E10) E17) E26) W33 g30) W38 g30))) u hu⟩⟩

/- slices.EqualFunc[[]impl.Step,[]impl.Step,impl.Step,impl.Step] -/
theorem c_slices_EqualFunc_impl_Step_impl_Step_impl_Step_impl_Step (a : Value) (L_a : List StepT) (b : Value) (L_b : List StepT) (f : Value) (pr_f : StepT → StepT → Bool) (w : World) (hv_a : Sl RStepT 8 w a L_a) (hv_b : Sl RStepT 8 w b L_b) (hv_f : ∃ fi fst cap, f = .func (.func fi) fst cap ∧ (∀ args w, (callFunc fi args).run Try.prog w = .ok (.enter fi args) w) ∧ ∀ (cs0 : List Value) (X0 : StepT) (cs1 : List Value) (X1 : StepT) u, Ext w u → RStepT u X0 cs0 → RStepT u X1 cs1 → Gives Try.prog fi (fst ++ #[.agg cs0.toArray, .agg cs1.toArray] ++ cap) u (fun v _ => v = .bool (pr_f X0 X1))) : Gives Try.prog 18 #[a, b, f] w (fun v w' => v = (Bo (sameX pr_f L_a L_b))) := by
  have hlen_a := Sl.len hv_a; obtain ⟨p_a, q_a, rfl⟩ := Sl.shape hv_a
  have hlen_b := Sl.len hv_b; obtain ⟨p_b, q_b, rfl⟩ := Sl.shape hv_b
  obtain ⟨f_f, s_f, c_f, rfl, hcal_f, hg_f⟩ := hv_f
  refine enter [(.slice p_a L_a.length q_a), (.slice p_b L_b.length q_b), (.func (.func f_f) s_f c_f), Ud, Ud, Ud, Ud, Ud, Ud, Ud, Ud, Ud, Ud, Ud, Ud, Ud, Ud, Ud, Ud, Ud, Ud, Ud, Ud, Ud, Ud, Ud, Ud, Ud, Ud, Ud, Ud, Ud] Try.func18 rfl Try.ntmps18 rfl ?_
  refine wp_seq_k fun K1 hK1 => ?_
  refine wp_region_lit ?_
  refine q_is rfl rfl (does_assign (u := (Bo false)) (ev rfl)) (by dsimp only [List.set]; try rfl) ?_
  refine wpList_nil (hK1 _ _ ?_)
  refine wp_seq_k fun K2 hK2 => ?_
  refine wp_seq_k fun K3 hK3 => ?_
  refine wp_region_lit ?_
  refine q_is rfl rfl (does_move (u := (.slice p_a L_a.length q_a)) (ev rfl)) (by dsimp only [List.set]; try rfl) ?_
  refine q_is rfl rfl (does_len_slice Try.underlying27 (ev rfl)) (by dsimp only [List.set]; try rfl) ?_
  refine q_is rfl rfl (does_move (u := (.slice p_b L_b.length q_b)) (ev rfl)) (by dsimp only [List.set]; try rfl) ?_
  refine q_is rfl rfl (does_len_slice Try.underlying27 (ev rfl)) (by dsimp only [List.set]; try rfl) ?_
  refine q_is rfl rfl (does_icmp (p := (L_a.length : Int)) (q := (L_b.length : Int)) (.inr (.inl rfl)) (ev rfl) (ev rfl)) (by dsimp only [List.set]; try rfl) ?_
  refine wpList_nil (hK3 _ _ ?_)
  refine wp_cond_split (t := icmp .neq (L_a.length : Int) (L_b.length : Int)) (ev rfl) (fun c4 => ?_) (fun c4 => ?_)
  · have c4' := c4
    (try simp only [icmp, Bool.and_eq_true, Bool.or_eq_true, Bool.and_eq_false_iff, Bool.or_eq_false_iff, Bool.not_eq_true', Bool.not_eq_false', decide_eq_true_eq, decide_eq_false_iff_not, beq_iff_eq, bne_iff_ne, beq_eq_false_iff_ne, bne_eq_false_iff_eq] at c4')
    refine wp_seq_k fun K5 hK5 => ?_
    refine wp_region_lit ?_
    refine q_is rfl rfl (does_assign (u := (Bo false)) (ev rfl)) (by dsimp only [List.set]; try rfl) ?_
    refine wpList_nil (hK5 _ _ ?_)
    refine wp_ret ?_
    dsimp only [Exit.then, Exit.inBlock]
    refine ret_val (v := (Bo false)) (res_T rfl (slot rfl)) (Ext.refl w) ?_
    have x6 : (sameX pr_f L_a L_b) = false := by first | exact (sameX_len (by omega)) | exact (sameX_not (by omega) (by assumption) (by assumption) (by simp_all)) | exact (sameX_all (by omega) (by omega) hs)
    exact (by first | rfl | rw [x6])
  have c4' := c4
  (try simp only [icmp, Bool.and_eq_true, Bool.or_eq_true, Bool.and_eq_false_iff, Bool.or_eq_false_iff, Bool.not_eq_true', Bool.not_eq_false', decide_eq_true_eq, decide_eq_false_iff_not, beq_iff_eq, bne_iff_ne, beq_eq_false_iff_ne, bne_eq_false_iff_eq] at c4')
  refine wp_skip (hK2 _ _ ?_)
  refine wp_seq_k fun K7 hK7 => ?_
  refine wp_seq_k fun K8 hK8 => ?_
  refine wp_region_lit ?_
  refine q_is rfl rfl (does_move (u := (.slice p_a L_a.length q_a)) (ev rfl)) (by dsimp only [List.set]; try rfl) ?_
  refine q_is rfl rfl (does_len_slice Try.underlying27 (ev rfl)) (by dsimp only [List.set]; try rfl) ?_
  refine q_is rfl rfl (does_move (u := (Iv 0)) (ev rfl)) (by dsimp only [List.set]; try rfl) ?_
  refine wpList_nil (hK8 _ _ ?_)
  refine wp_block ?_
  refine loop_ghost (σ := Nat) (fun k a w' => ∃ u9 : Nat → Value, a = fr [(.slice p_a L_a.length q_a), (.slice p_b L_b.length q_b), (.func (.func f_f) s_f c_f), Ud, Ud, Ud, (u9 6), (u9 7), (u9 8), (u9 9), (.slice p_a L_a.length q_a), (Iv (L_a.length : Int)), (.slice p_b L_b.length q_b), (Iv (L_b.length : Int)), (Bo (icmp .neq (L_a.length : Int) (L_b.length : Int))), (.slice p_a L_a.length q_a), (Iv (L_a.length : Int)), (Iv (k : Int)), (u9 18), (u9 19), (u9 20), (u9 21), (u9 22), (u9 23), (u9 24), (u9 25), (u9 26), (u9 27), (u9 28), (u9 29), (u9 30), (u9 31)] ∧ Ext w w' ∧ (k ≤ L_a.length ∧ SameXTo pr_f L_a L_b k)) (fun k => L_a.length - k) 0 ?_ ?_
  · refine ⟨fun t => (([(.slice p_a L_a.length q_a), (.slice p_b L_b.length q_b), (.func (.func f_f) s_f c_f), Ud, Ud, Ud, (Bo false), Ud, Ud, Ud, (.slice p_a L_a.length q_a), (Iv (L_a.length : Int)), (.slice p_b L_b.length q_b), (Iv (L_b.length : Int)), (Bo (icmp .neq (L_a.length : Int) (L_b.length : Int))), (.slice p_a L_a.length q_a), (Iv (L_a.length : Int)), (Iv 0), Ud, Ud, Ud, Ud, Ud, Ud, Ud, Ud, Ud, Ud, Ud, Ud, Ud, Ud] : List Value)[t]?).getD undef, rfl, Ext.refl _, ?_⟩
    exact ⟨Nat.zero_le _, SameXTo.zero⟩
  · rintro k a w10 ⟨u9, rfl, E11, ⟨hk, hs⟩⟩
    have X13 := Ext.gr (Ext.refl w) E11
    refine wp_seq_k fun K14 hK14 => ?_
    refine wp_region_lit ?_
    refine q_is rfl rfl (does_icmp (p := (k : Int)) (q := (L_a.length : Int)) (.inr (.inr (.inl rfl))) (ev rfl) (ev rfl)) (by dsimp only [List.set]; try rfl) ?_
    refine wpList_nil (hK14 _ _ ?_)
    refine wp_seq_k fun K15 hK15 => ?_
    refine wp_cond_split (t := icmp .lss (k : Int) (L_a.length : Int)) (ev rfl) (fun c16 => ?_) (fun c16 => ?_)
    · have c16' := c16
      (try simp only [icmp, Bool.and_eq_true, Bool.or_eq_true, Bool.and_eq_false_iff, Bool.or_eq_false_iff, Bool.not_eq_true', Bool.not_eq_false', decide_eq_true_eq, decide_eq_false_iff_not, beq_iff_eq, bne_iff_ne, beq_eq_false_iff_ne, bne_eq_false_iff_eq] at c16')
      refine wp_skip (hK15 _ _ ?_)
      refine wp_seq_k fun K17 hK17 => ?_
      refine wp_block ?_
      refine wp_seq_k fun K18 hK18 => ?_
      refine wp_region_lit ?_
      refine q_is rfl rfl (does_move (u := (Iv (k : Int))) (ev rfl)) (by dsimp only [List.set]; try rfl) ?_
      obtain ⟨el1, hel1⟩ : ∃ e, L_a[k]? = some e := ⟨_, List.getElem?_eq_getElem (by omega)⟩
      refine seqd rfl rfl (does_indexSl (R := RStepT) (i := (k : Int)) (xs := L_a) (e := el1) Try.underlying27 Try.sizeOf43 (ev rfl) (ev rfl) (Sl.ext hv_a RStepT.mono X13) (by omega) hel1) ?_; rintro _ w10 ⟨b19, o20, _, rfl, hc22, ⟨y23, rfl, h24⟩, rfl⟩
      have hs27 := h24; have hs27l := Sl.len h24; obtain ⟨p25, q26, rfl⟩ := Sl.shape h24
      show wpList _ _ _ _ (fr [(.slice p_a L_a.length q_a), (.slice p_b L_b.length q_b), (.func (.func f_f) s_f c_f), Ud, Ud, Ud, (u9 6), (u9 7), (u9 8), (u9 9), (.slice p_a L_a.length q_a), (Iv (L_a.length : Int)), (.slice p_b L_b.length q_b), (Iv (L_b.length : Int)), (Bo (icmp .neq (L_a.length : Int) (L_b.length : Int))), (.slice p_a L_a.length q_a), (Iv (L_a.length : Int)), (Iv (k : Int)), (Bo (icmp .lss (k : Int) (L_a.length : Int))), (Iv (k : Int)), (Pt b19 o20), (u9 21), (u9 22), (u9 23), (u9 24), (u9 25), (u9 26), (u9 27), (u9 28), (u9 29), (u9 30), (u9 31)]) _
      refine q_is rfl rfl (does_loadAgg (cs := [(Iv el1.kind), (Iv el1.to), (Iv el1.a), (Iv el1.b), (Iv el1.node.kind), (Iv el1.node.a), (Iv el1.node.b), (.slice p25 el1.node.nums.length q26)]) (ev rfl) Try.isAgg43 Try.sizeOf43 hc22 rfl) (by dsimp only [List.set]; try rfl) ?_
      refine seqd rfl rfl (does_alloc z43) ?_; rintro _ w32 ⟨b28, rfl, hb29, hB30, E31⟩
      have n33 : b19 < b28 := Nat.lt_of_lt_of_le (cell_lt (Cells.at hc22 0 rfl)) hb29
      have g34 : w.heap.size ≤ b28 := Nat.le_trans (Below.size X13) hb29
      change Blk _ _ [(Iv 0), (Iv 0), (Iv 0), (Iv 0), (Iv 0), (Iv 0), (Iv 0), (.slice none 0 0)] at hB30
      have X35 := Ext.gr X13 E31
      show wpList _ _ _ _ (fr [(.slice p_a L_a.length q_a), (.slice p_b L_b.length q_b), (.func (.func f_f) s_f c_f), Ud, Ud, Ud, (u9 6), (u9 7), (Pt b28 0), (u9 9), (.slice p_a L_a.length q_a), (Iv (L_a.length : Int)), (.slice p_b L_b.length q_b), (Iv (L_b.length : Int)), (Bo (icmp .neq (L_a.length : Int) (L_b.length : Int))), (.slice p_a L_a.length q_a), (Iv (L_a.length : Int)), (Iv (k : Int)), (Bo (icmp .lss (k : Int) (L_a.length : Int))), (Iv (k : Int)), (Pt b19 o20), (.agg #[(Iv el1.kind), (Iv el1.to), (Iv el1.a), (Iv el1.b), (Iv el1.node.kind), (Iv el1.node.a), (Iv el1.node.b), (.slice p25 el1.node.nums.length q26)]), (u9 22), (u9 23), (u9 24), (u9 25), (u9 26), (u9 27), (u9 28), (u9 29), (u9 30), (u9 31)]) _
      refine q_is rfl rfl (does_assign (u := (Iv (k : Int))) (ev rfl)) (by dsimp only [List.set]; try rfl) ?_
      refine seqn rfl rfl (does_store (n := 8) (cs := [(Iv 0), (Iv 0), (Iv 0), (Iv 0), (Iv 0), (Iv 0), (Iv 0), (.slice none 0 0)]) (u := (.agg #[(Iv el1.kind), (Iv el1.to), (Iv el1.a), (Iv el1.b), (Iv el1.node.kind), (Iv el1.node.a), (Iv el1.node.b), (.slice p25 el1.node.nums.length q26)])) (ev rfl) (ev rfl) Try.sizeOf43 rfl hB30 (Nat.le_of_ble_eq_true rfl) rfl) ?_; rintro _ w38 ⟨rfl, W36, hB37⟩
      change Blk _ _ [(Iv el1.kind), (Iv el1.to), (Iv el1.a), (Iv el1.b), (Iv el1.node.kind), (Iv el1.node.a), (Iv el1.node.b), (.slice p25 el1.node.nums.length q26)] at hB37
      have X39 := Below.wr X35 W36 g34
      refine wpList_nil (hK18 _ _ ?_)
      refine wp_seq_k fun K40 hK40 => ?_
      refine wp_region_lit ?_
      refine q_is rfl rfl (does_move (u := (.slice p_b L_b.length q_b)) (ev rfl)) (by dsimp only [List.set]; try rfl) ?_
      refine q_is rfl rfl (does_move (u := (Iv (k : Int))) (ev rfl)) (by dsimp only [List.set]; try rfl) ?_
      obtain ⟨el2, hel2⟩ : ∃ e, L_b[k]? = some e := ⟨_, List.getElem?_eq_getElem (by omega)⟩
      refine seqd rfl rfl (does_indexSl (R := RStepT) (i := (k : Int)) (xs := L_b) (e := el2) Try.underlying27 Try.sizeOf43 (ev rfl) (ev rfl) (Sl.ext hv_b RStepT.mono X39) (by omega) hel2) ?_; rintro _ w38 ⟨b41, o42, _, rfl, hc44, ⟨y45, rfl, h46⟩, rfl⟩
      have hs49 := h46; have hs49l := Sl.len h46; obtain ⟨p47, q48, rfl⟩ := Sl.shape h46
      show wpList _ _ _ _ (fr [(.slice p_a L_a.length q_a), (.slice p_b L_b.length q_b), (.func (.func f_f) s_f c_f), Ud, Ud, Ud, (u9 6), (Iv (k : Int)), (Pt b28 0), (u9 9), (.slice p_a L_a.length q_a), (Iv (L_a.length : Int)), (.slice p_b L_b.length q_b), (Iv (L_b.length : Int)), (Bo (icmp .neq (L_a.length : Int) (L_b.length : Int))), (.slice p_a L_a.length q_a), (Iv (L_a.length : Int)), (Iv (k : Int)), (Bo (icmp .lss (k : Int) (L_a.length : Int))), (Iv (k : Int)), (Pt b19 o20), (.agg #[(Iv el1.kind), (Iv el1.to), (Iv el1.a), (Iv el1.b), (Iv el1.node.kind), (Iv el1.node.a), (Iv el1.node.b), (.slice p25 el1.node.nums.length q26)]), (.slice p_b L_b.length q_b), (Iv (k : Int)), (Pt b41 o42), (u9 25), (u9 26), (u9 27), (u9 28), (u9 29), (u9 30), (u9 31)]) _
      refine q_is rfl rfl (does_loadAgg (cs := [(Iv el2.kind), (Iv el2.to), (Iv el2.a), (Iv el2.b), (Iv el2.node.kind), (Iv el2.node.a), (Iv el2.node.b), (.slice p47 el2.node.nums.length q48)]) (ev rfl) Try.isAgg43 Try.sizeOf43 hc44 rfl) (by dsimp only [List.set]; try rfl) ?_
      refine seqd rfl rfl (does_alloc z43) ?_; rintro _ w54 ⟨b50, rfl, hb51, hB52, E53⟩
      have n55 : b19 < b50 := Nat.lt_of_lt_of_le (cell_lt (Cells.at ((hc22.ext E31).wr W36 (Nat.ne_of_lt n33)) 0 rfl)) hb51
      have n56 : b28 < b50 := Nat.lt_of_lt_of_le (Blk.lt hB37) hb51
      have n57 : b41 < b50 := Nat.lt_of_lt_of_le (cell_lt (Cells.at hc44 0 rfl)) hb51
      have g58 : w.heap.size ≤ b50 := Nat.le_trans (Below.size X39) hb51
      change Blk _ _ [(Iv 0), (Iv 0), (Iv 0), (Iv 0), (Iv 0), (Iv 0), (Iv 0), (.slice none 0 0)] at hB52
      have X59 := Ext.gr X39 E53
      show wpList _ _ _ _ (fr [(.slice p_a L_a.length q_a), (.slice p_b L_b.length q_b), (.func (.func f_f) s_f c_f), Ud, Ud, Ud, (u9 6), (Iv (k : Int)), (Pt b28 0), (Pt b50 0), (.slice p_a L_a.length q_a), (Iv (L_a.length : Int)), (.slice p_b L_b.length q_b), (Iv (L_b.length : Int)), (Bo (icmp .neq (L_a.length : Int) (L_b.length : Int))), (.slice p_a L_a.length q_a), (Iv (L_a.length : Int)), (Iv (k : Int)), (Bo (icmp .lss (k : Int) (L_a.length : Int))), (Iv (k : Int)), (Pt b19 o20), (.agg #[(Iv el1.kind), (Iv el1.to), (Iv el1.a), (Iv el1.b), (Iv el1.node.kind), (Iv el1.node.a), (Iv el1.node.b), (.slice p25 el1.node.nums.length q26)]), (.slice p_b L_b.length q_b), (Iv (k : Int)), (Pt b41 o42), (.agg #[(Iv el2.kind), (Iv el2.to), (Iv el2.a), (Iv el2.b), (Iv el2.node.kind), (Iv el2.node.a), (Iv el2.node.b), (.slice p47 el2.node.nums.length q48)]), (u9 26), (u9 27), (u9 28), (u9 29), (u9 30), (u9 31)]) _
      refine seqn rfl rfl (does_store (n := 8) (cs := [(Iv 0), (Iv 0), (Iv 0), (Iv 0), (Iv 0), (Iv 0), (Iv 0), (.slice none 0 0)]) (u := (.agg #[(Iv el2.kind), (Iv el2.to), (Iv el2.a), (Iv el2.b), (Iv el2.node.kind), (Iv el2.node.a), (Iv el2.node.b), (.slice p47 el2.node.nums.length q48)])) (ev rfl) (ev rfl) Try.sizeOf43 rfl hB52 (Nat.le_of_ble_eq_true rfl) rfl) ?_; rintro _ w62 ⟨rfl, W60, hB61⟩
      change Blk _ _ [(Iv el2.kind), (Iv el2.to), (Iv el2.a), (Iv el2.b), (Iv el2.node.kind), (Iv el2.node.a), (Iv el2.node.b), (.slice p47 el2.node.nums.length q48)] at hB61
      have X63 := Below.wr X59 W60 g58
      refine wpList_nil (hK40 _ _ ?_)
      refine wp_seq_k fun K64 hK64 => ?_
      refine wp_region_lit ?_
      refine q_is rfl rfl (does_move (u := (.func (.func f_f) s_f c_f)) (ev rfl)) (by dsimp only [List.set]; try rfl) ?_
      refine q_is rfl rfl (does_loadAgg (cs := [(Iv el1.kind), (Iv el1.to), (Iv el1.a), (Iv el1.b), (Iv el1.node.kind), (Iv el1.node.a), (Iv el1.node.b), (.slice p25 el1.node.nums.length q26)]) (ev rfl) Try.isAgg43 Try.sizeOf43 (Blk.cells ((hB37.ext E53).wr W60 (Nat.ne_of_lt n56))) rfl) (by dsimp only [List.set]; try rfl) ?_
      refine q_is rfl rfl (does_loadAgg (cs := [(Iv el2.kind), (Iv el2.to), (Iv el2.a), (Iv el2.b), (Iv el2.node.kind), (Iv el2.node.a), (Iv el2.node.b), (.slice p47 el2.node.nums.length q48)]) (ev rfl) Try.isAgg43 Try.sizeOf43 (Blk.cells hB61) rfl) (by dsimp only [List.set]; try rfl) ?_
      refine seqd rfl rfl (does_callf (args := #[(.agg #[(Iv el1.kind), (Iv el1.to), (Iv el1.a), (Iv el1.b), (Iv el1.node.kind), (Iv el1.node.a), (Iv el1.node.b), (.slice p25 el1.node.nums.length q26)]), (.agg #[(Iv el2.kind), (Iv el2.to), (Iv el2.a), (Iv el2.b), (Iv el2.node.kind), (Iv el2.node.a), (Iv el2.node.b), (.slice p47 el2.node.nums.length q48)])]) (ev rfl) hcal_f (evs rfl) (hg_f [(Iv el1.kind), (Iv el1.to), (Iv el1.a), (Iv el1.b), (Iv el1.node.kind), (Iv el1.node.a), (Iv el1.node.b), (.slice p25 el1.node.nums.length q26)] el1 [(Iv el2.kind), (Iv el2.to), (Iv el2.a), (Iv el2.b), (Iv el2.node.kind), (Iv el2.node.a), (Iv el2.node.b), (.slice p47 el2.node.nums.length q48)] el2 _ X63 ⟨(.slice p25 el1.node.nums.length q26), rfl, (Sl.ext hs27 RF.mono (Below.wr (Ext.gr (Below.wr (Ext.gr (Ext.refl _) E31) W36 (Nat.le_trans (Below.size (Ext.refl _)) hb29)) E53) W60 (Nat.le_trans (Below.size (Below.wr (Ext.gr (Ext.refl _) E31) W36 (Nat.le_trans (Below.size (Ext.refl _)) hb29))) hb51)))⟩ ⟨(.slice p47 el2.node.nums.length q48), rfl, (Sl.ext hs49 RF.mono (Below.wr (Ext.gr (Ext.refl _) E53) W60 (Nat.le_trans (Below.size (Ext.refl _)) hb51)))⟩)) ?_; rintro _ w66 ⟨E65, rfl⟩
      have X67 := Ext.gr X63 E65
      show wpList _ _ _ _ (fr [(.slice p_a L_a.length q_a), (.slice p_b L_b.length q_b), (.func (.func f_f) s_f c_f), Ud, Ud, Ud, (u9 6), (Iv (k : Int)), (Pt b28 0), (Pt b50 0), (.slice p_a L_a.length q_a), (Iv (L_a.length : Int)), (.slice p_b L_b.length q_b), (Iv (L_b.length : Int)), (Bo (icmp .neq (L_a.length : Int) (L_b.length : Int))), (.slice p_a L_a.length q_a), (Iv (L_a.length : Int)), (Iv (k : Int)), (Bo (icmp .lss (k : Int) (L_a.length : Int))), (Iv (k : Int)), (Pt b19 o20), (.agg #[(Iv el1.kind), (Iv el1.to), (Iv el1.a), (Iv el1.b), (Iv el1.node.kind), (Iv el1.node.a), (Iv el1.node.b), (.slice p25 el1.node.nums.length q26)]), (.slice p_b L_b.length q_b), (Iv (k : Int)), (Pt b41 o42), (.agg #[(Iv el2.kind), (Iv el2.to), (Iv el2.a), (Iv el2.b), (Iv el2.node.kind), (Iv el2.node.a), (Iv el2.node.b), (.slice p47 el2.node.nums.length q48)]), (.func (.func f_f) s_f c_f), (.agg #[(Iv el1.kind), (Iv el1.to), (Iv el1.a), (Iv el1.b), (Iv el1.node.kind), (Iv el1.node.a), (Iv el1.node.b), (.slice p25 el1.node.nums.length q26)]), (.agg #[(Iv el2.kind), (Iv el2.to), (Iv el2.a), (Iv el2.b), (Iv el2.node.kind), (Iv el2.node.a), (Iv el2.node.b), (.slice p47 el2.node.nums.length q48)]), (Bo (pr_f el1 el2)), (u9 30), (u9 31)]) _
      refine q_is rfl rfl (does_not (ev rfl)) (by dsimp only [List.set]; try rfl) ?_
      refine wpList_nil (hK64 _ _ ?_)
      refine wp_cond_split (t := !(pr_f el1 el2)) (ev rfl) (fun c68 => ?_) (fun c68 => ?_)
      · rw [Bool.not_eq_true'] at c68
        have c68' := c68
        refine wp_seq_k fun K69 hK69 => ?_
        refine wp_region_lit ?_
        refine q_is rfl rfl (does_assign (u := (Bo false)) (ev rfl)) (by dsimp only [List.set]; try rfl) ?_
        refine wpList_nil (hK69 _ _ ?_)
        refine wp_ret ?_
        dsimp only [Exit.then, Exit.inBlock]
        refine ret_val (v := (Bo false)) (res_T rfl (slot rfl)) X67 ?_
        try simp only [hel1, hel2] at c4 c16 c68
        have x70 : (sameX pr_f L_a L_b) = false := by first | exact (sameX_len (by omega)) | exact (sameX_not (by omega) (by assumption) (by assumption) (by simp_all)) | exact (sameX_all (by omega) (by omega) hs)
        exact (by first | rfl | rw [x70])
      rw [Bool.not_eq_false'] at c68
      have c68' := c68
      refine wp_skip (hK17 _ _ ?_)
      refine wp_region_lit ?_
      refine q_is rfl rfl (does_iarith (p := (k : Int)) (q := 1) (r := (k : Int) + 1) (ev rfl) (ev rfl) (.inl ⟨rfl, (in_i64 (by omega) (by omega)).symm⟩)) (by dsimp only [List.set]; try rfl) ?_
      refine q_is rfl rfl (does_move (u := (Iv ((k : Int) + 1))) (ev rfl)) (by dsimp only [List.set]; try rfl) ?_
      refine wpList_nil ?_
      refine ⟨k + 1, ⟨fun t => (([(.slice p_a L_a.length q_a), (.slice p_b L_b.length q_b), (.func (.func f_f) s_f c_f), Ud, Ud, Ud, (u9 6), (Iv (k : Int)), (Pt b28 0), (Pt b50 0), (.slice p_a L_a.length q_a), (Iv (L_a.length : Int)), (.slice p_b L_b.length q_b), (Iv (L_b.length : Int)), (Bo (icmp .neq (L_a.length : Int) (L_b.length : Int))), (.slice p_a L_a.length q_a), (Iv (L_a.length : Int)), (Iv ((k : Int) + 1)), (Bo (icmp .lss (k : Int) (L_a.length : Int))), (Iv (k : Int)), (Pt b19 o20), (.agg #[(Iv el1.kind), (Iv el1.to), (Iv el1.a), (Iv el1.b), (Iv el1.node.kind), (Iv el1.node.a), (Iv el1.node.b), (.slice p25 el1.node.nums.length q26)]), (.slice p_b L_b.length q_b), (Iv (k : Int)), (Pt b41 o42), (.agg #[(Iv el2.kind), (Iv el2.to), (Iv el2.a), (Iv el2.b), (Iv el2.node.kind), (Iv el2.node.a), (Iv el2.node.b), (.slice p47 el2.node.nums.length q48)]), (.func (.func f_f) s_f c_f), (.agg #[(Iv el1.kind), (Iv el1.to), (Iv el1.a), (Iv el1.b), (Iv el1.node.kind), (Iv el1.node.a), (Iv el1.node.b), (.slice p25 el1.node.nums.length q26)]), (.agg #[(Iv el2.kind), (Iv el2.to), (Iv el2.a), (Iv el2.b), (Iv el2.node.kind), (Iv el2.node.a), (Iv el2.node.b), (.slice p47 el2.node.nums.length q48)]), (Bo (pr_f el1 el2)), (Bo (!(pr_f el1 el2))), (Iv ((k : Int) + 1))] : List Value)[t]?).getD undef, ?_, (Ext.gr (Below.kl (Ext.gr (Below.kl (Ext.gr E11 E31) (KpL.of_wr W36) (allS (Nat.le_trans E11.size hb29) all0) (Nat.le_refl _)) E53) (KpL.of_wr W60) (allS (Nat.le_trans (Below.kl (Ext.gr E11 E31) (KpL.of_wr W36) (allS (Nat.le_trans E11.size hb29) all0) (Nat.le_refl _)).size hb51) all0) (Nat.le_refl _)) E65), ?_⟩, ?_⟩
      · first | rfl | (simp only [Nat.cast_add, Nat.cast_one, Int.natCast_add, Int.natCast_one]; rfl)
      · exact ⟨by omega, SameXTo.step hs (by assumption) (by assumption) (by simp_all)⟩
      · omega
    have c16' := c16
    (try simp only [icmp, Bool.and_eq_true, Bool.or_eq_true, Bool.and_eq_false_iff, Bool.or_eq_false_iff, Bool.not_eq_true', Bool.not_eq_false', decide_eq_true_eq, decide_eq_false_iff_not, beq_iff_eq, bne_iff_ne, beq_eq_false_iff_ne, bne_eq_false_iff_eq] at c16')
    refine wp_exit ?_
    refine hK7 _ _ ?_
    refine wp_seq_k fun K71 hK71 => ?_
    refine wp_region_lit ?_
    refine q_is rfl rfl (does_assign (u := (Bo true)) (ev rfl)) (by dsimp only [List.set]; try rfl) ?_
    refine wpList_nil (hK71 _ _ ?_)
    refine wp_ret ?_
    refine ret_val (v := (Bo true)) (res_T rfl (slot rfl)) X13 ?_
    have x72 : (sameX pr_f L_a L_b) = true := by first | exact (sameX_len (by omega)) | exact (sameX_not (by omega) (by assumption) (by assumption) (by simp_all)) | exact (sameX_all (by omega) (by omega) hs)
    exact (by first | rfl | rw [x72])

/- slices.EqualFunc[[]float32,[]float32,float32,float32] -/
theorem c_slices_EqualFunc_float32_float32_float32_float32 (a : Value) (L_a : List Nat) (b : Value) (L_b : List Nat) (f : Value) (pr_f : Nat → Nat → Bool) (w : World) (hv_a : Sl RF 1 w a L_a) (hv_b : Sl RF 1 w b L_b) (hv_f : ∃ fi fst cap, f = .func (.func fi) fst cap ∧ (∀ args w, (callFunc fi args).run Try.prog w = .ok (.enter fi args) w) ∧ ∀ (r0 : Nat) (r1 : Nat) u, Ext w u → Gives Try.prog fi (fst ++ #[.float .f32 r0, .float .f32 r1] ++ cap) u (fun v _ => v = .bool (pr_f (cf .f32 r0) (cf .f32 r1)))) : Gives Try.prog 47 #[a, b, f] w (fun v w' => v = (Bo (sameX pr_f L_a L_b))) := by
  have hlen_a := Sl.len hv_a; obtain ⟨p_a, q_a, rfl⟩ := Sl.shape hv_a
  have hlen_b := Sl.len hv_b; obtain ⟨p_b, q_b, rfl⟩ := Sl.shape hv_b
  obtain ⟨f_f, s_f, c_f, rfl, hcal_f, hg_f⟩ := hv_f
  refine enter [(.slice p_a L_a.length q_a), (.slice p_b L_b.length q_b), (.func (.func f_f) s_f c_f), Ud, Ud, Ud, Ud, Ud, Ud, Ud, Ud, Ud, Ud, Ud, Ud, Ud, Ud, Ud, Ud, Ud, Ud, Ud, Ud, Ud, Ud, Ud, Ud, Ud, Ud, Ud, Ud, Ud] Try.func47 rfl Try.ntmps47 rfl ?_
  refine wp_seq_k fun K1 hK1 => ?_
  refine wp_region_lit ?_
  refine q_is rfl rfl (does_assign (u := (Bo false)) (ev rfl)) (by dsimp only [List.set]; try rfl) ?_
  refine wpList_nil (hK1 _ _ ?_)
  refine wp_seq_k fun K2 hK2 => ?_
  refine wp_seq_k fun K3 hK3 => ?_
  refine wp_region_lit ?_
  refine q_is rfl rfl (does_move (u := (.slice p_a L_a.length q_a)) (ev rfl)) (by dsimp only [List.set]; try rfl) ?_
  refine q_is rfl rfl (does_len_slice Try.underlying32 (ev rfl)) (by dsimp only [List.set]; try rfl) ?_
  refine q_is rfl rfl (does_move (u := (.slice p_b L_b.length q_b)) (ev rfl)) (by dsimp only [List.set]; try rfl) ?_
  refine q_is rfl rfl (does_len_slice Try.underlying32 (ev rfl)) (by dsimp only [List.set]; try rfl) ?_
  refine q_is rfl rfl (does_icmp (p := (L_a.length : Int)) (q := (L_b.length : Int)) (.inr (.inl rfl)) (ev rfl) (ev rfl)) (by dsimp only [List.set]; try rfl) ?_
  refine wpList_nil (hK3 _ _ ?_)
  refine wp_cond_split (t := icmp .neq (L_a.length : Int) (L_b.length : Int)) (ev rfl) (fun c4 => ?_) (fun c4 => ?_)
  · have c4' := c4
    (try simp only [icmp, Bool.and_eq_true, Bool.or_eq_true, Bool.and_eq_false_iff, Bool.or_eq_false_iff, Bool.not_eq_true', Bool.not_eq_false', decide_eq_true_eq, decide_eq_false_iff_not, beq_iff_eq, bne_iff_ne, beq_eq_false_iff_ne, bne_eq_false_iff_eq] at c4')
    refine wp_seq_k fun K5 hK5 => ?_
    refine wp_region_lit ?_
    refine q_is rfl rfl (does_assign (u := (Bo false)) (ev rfl)) (by dsimp only [List.set]; try rfl) ?_
    refine wpList_nil (hK5 _ _ ?_)
    refine wp_ret ?_
    dsimp only [Exit.then, Exit.inBlock]
    refine ret_val (v := (Bo false)) (res_T rfl (slot rfl)) (Ext.refl w) ?_
    have x6 : (sameX pr_f L_a L_b) = false := by first | exact (sameX_len (by omega)) | exact (sameX_not (by omega) (by assumption) (by assumption) (by simp_all)) | exact (sameX_all (by omega) (by omega) hs)
    exact (by first | rfl | rw [x6])
  have c4' := c4
  (try simp only [icmp, Bool.and_eq_true, Bool.or_eq_true, Bool.and_eq_false_iff, Bool.or_eq_false_iff, Bool.not_eq_true', Bool.not_eq_false', decide_eq_true_eq, decide_eq_false_iff_not, beq_iff_eq, bne_iff_ne, beq_eq_false_iff_ne, bne_eq_false_iff_eq] at c4')
  refine wp_skip (hK2 _ _ ?_)
  refine wp_seq_k fun K7 hK7 => ?_
  refine wp_seq_k fun K8 hK8 => ?_
  refine wp_region_lit ?_
  refine q_is rfl rfl (does_move (u := (.slice p_a L_a.length q_a)) (ev rfl)) (by dsimp only [List.set]; try rfl) ?_
  refine q_is rfl rfl (does_len_slice Try.underlying32 (ev rfl)) (by dsimp only [List.set]; try rfl) ?_
  refine q_is rfl rfl (does_move (u := (Iv 0)) (ev rfl)) (by dsimp only [List.set]; try rfl) ?_
  refine wpList_nil (hK8 _ _ ?_)
  refine wp_block ?_
  refine loop_ghost (σ := Nat) (fun k a w' => ∃ u9 : Nat → Value, a = fr [(.slice p_a L_a.length q_a), (.slice p_b L_b.length q_b), (.func (.func f_f) s_f c_f), Ud, Ud, Ud, (u9 6), (u9 7), (u9 8), (u9 9), (.slice p_a L_a.length q_a), (Iv (L_a.length : Int)), (.slice p_b L_b.length q_b), (Iv (L_b.length : Int)), (Bo (icmp .neq (L_a.length : Int) (L_b.length : Int))), (.slice p_a L_a.length q_a), (Iv (L_a.length : Int)), (Iv (k : Int)), (u9 18), (u9 19), (u9 20), (u9 21), (u9 22), (u9 23), (u9 24), (u9 25), (u9 26), (u9 27), (u9 28), (u9 29), (u9 30), (u9 31)] ∧ Ext w w' ∧ (k ≤ L_a.length ∧ SameXTo pr_f L_a L_b k)) (fun k => L_a.length - k) 0 ?_ ?_
  · refine ⟨fun t => (([(.slice p_a L_a.length q_a), (.slice p_b L_b.length q_b), (.func (.func f_f) s_f c_f), Ud, Ud, Ud, (Bo false), Ud, Ud, Ud, (.slice p_a L_a.length q_a), (Iv (L_a.length : Int)), (.slice p_b L_b.length q_b), (Iv (L_b.length : Int)), (Bo (icmp .neq (L_a.length : Int) (L_b.length : Int))), (.slice p_a L_a.length q_a), (Iv (L_a.length : Int)), (Iv 0), Ud, Ud, Ud, Ud, Ud, Ud, Ud, Ud, Ud, Ud, Ud, Ud, Ud, Ud] : List Value)[t]?).getD undef, rfl, Ext.refl _, ?_⟩
    exact ⟨Nat.zero_le _, SameXTo.zero⟩
  · rintro k a w10 ⟨u9, rfl, E11, ⟨hk, hs⟩⟩
    have X13 := Ext.gr (Ext.refl w) E11
    refine wp_seq_k fun K14 hK14 => ?_
    refine wp_region_lit ?_
    refine q_is rfl rfl (does_icmp (p := (k : Int)) (q := (L_a.length : Int)) (.inr (.inr (.inl rfl))) (ev rfl) (ev rfl)) (by dsimp only [List.set]; try rfl) ?_
    refine wpList_nil (hK14 _ _ ?_)
    refine wp_seq_k fun K15 hK15 => ?_
    refine wp_cond_split (t := icmp .lss (k : Int) (L_a.length : Int)) (ev rfl) (fun c16 => ?_) (fun c16 => ?_)
    · have c16' := c16
      (try simp only [icmp, Bool.and_eq_true, Bool.or_eq_true, Bool.and_eq_false_iff, Bool.or_eq_false_iff, Bool.not_eq_true', Bool.not_eq_false', decide_eq_true_eq, decide_eq_false_iff_not, beq_iff_eq, bne_iff_ne, beq_eq_false_iff_ne, bne_eq_false_iff_eq] at c16')
      refine wp_skip (hK15 _ _ ?_)
      refine wp_seq_k fun K17 hK17 => ?_
      refine wp_block ?_
      refine wp_seq_k fun K18 hK18 => ?_
      refine wp_region_lit ?_
      refine q_is rfl rfl (does_move (u := (Iv (k : Int))) (ev rfl)) (by dsimp only [List.set]; try rfl) ?_
      obtain ⟨el1, hel1⟩ : ∃ e, L_a[k]? = some e := ⟨_, List.getElem?_eq_getElem (by omega)⟩
      refine seqd rfl rfl (does_indexSl (R := RF) (i := (k : Int)) (xs := L_a) (e := el1) Try.underlying32 Try.sizeOf59 (ev rfl) (ev rfl) (Sl.ext hv_a RF.mono X13) (by omega) hel1) ?_; rintro _ w10 ⟨b19, o20, _, rfl, hc22, ⟨r23, rfl, h24⟩, rfl⟩
      show wpList _ _ _ _ (fr [(.slice p_a L_a.length q_a), (.slice p_b L_b.length q_b), (.func (.func f_f) s_f c_f), Ud, Ud, Ud, (u9 6), (u9 7), (u9 8), (u9 9), (.slice p_a L_a.length q_a), (Iv (L_a.length : Int)), (.slice p_b L_b.length q_b), (Iv (L_b.length : Int)), (Bo (icmp .neq (L_a.length : Int) (L_b.length : Int))), (.slice p_a L_a.length q_a), (Iv (L_a.length : Int)), (Iv (k : Int)), (Bo (icmp .lss (k : Int) (L_a.length : Int))), (Iv (k : Int)), (Pt b19 o20), (u9 21), (u9 22), (u9 23), (u9 24), (u9 25), (u9 26), (u9 27), (u9 28), (u9 29), (u9 30), (u9 31)]) _
      refine q_is rfl rfl (does_load (u := (Fl r23)) (ev rfl) Try.isAgg59 (Cells.at hc22 0 rfl)) (by dsimp only [List.set]; try rfl) ?_
      refine q_is rfl rfl (does_assign (u := (Iv (k : Int))) (ev rfl)) (by dsimp only [List.set]; try rfl) ?_
      refine q_is rfl rfl (does_assign (u := (Fl r23)) (ev rfl)) (by dsimp only [List.set]; try rfl) ?_
      refine wpList_nil (hK18 _ _ ?_)
      refine wp_seq_k fun K25 hK25 => ?_
      refine wp_region_lit ?_
      refine q_is rfl rfl (does_move (u := (.slice p_b L_b.length q_b)) (ev rfl)) (by dsimp only [List.set]; try rfl) ?_
      refine q_is rfl rfl (does_move (u := (Iv (k : Int))) (ev rfl)) (by dsimp only [List.set]; try rfl) ?_
      obtain ⟨el2, hel2⟩ : ∃ e, L_b[k]? = some e := ⟨_, List.getElem?_eq_getElem (by omega)⟩
      refine seqd rfl rfl (does_indexSl (R := RF) (i := (k : Int)) (xs := L_b) (e := el2) Try.underlying32 Try.sizeOf59 (ev rfl) (ev rfl) (Sl.ext hv_b RF.mono X13) (by omega) hel2) ?_; rintro _ w10 ⟨b26, o27, _, rfl, hc29, ⟨r30, rfl, h31⟩, rfl⟩
      show wpList _ _ _ _ (fr [(.slice p_a L_a.length q_a), (.slice p_b L_b.length q_b), (.func (.func f_f) s_f c_f), Ud, Ud, Ud, (u9 6), (Iv (k : Int)), (Fl r23), (u9 9), (.slice p_a L_a.length q_a), (Iv (L_a.length : Int)), (.slice p_b L_b.length q_b), (Iv (L_b.length : Int)), (Bo (icmp .neq (L_a.length : Int) (L_b.length : Int))), (.slice p_a L_a.length q_a), (Iv (L_a.length : Int)), (Iv (k : Int)), (Bo (icmp .lss (k : Int) (L_a.length : Int))), (Iv (k : Int)), (Pt b19 o20), (Fl r23), (.slice p_b L_b.length q_b), (Iv (k : Int)), (Pt b26 o27), (u9 25), (u9 26), (u9 27), (u9 28), (u9 29), (u9 30), (u9 31)]) _
      refine q_is rfl rfl (does_load (u := (Fl r30)) (ev rfl) Try.isAgg59 (Cells.at hc29 0 rfl)) (by dsimp only [List.set]; try rfl) ?_
      refine q_is rfl rfl (does_assign (u := (Fl r30)) (ev rfl)) (by dsimp only [List.set]; try rfl) ?_
      refine wpList_nil (hK25 _ _ ?_)
      refine wp_seq_k fun K32 hK32 => ?_
      refine wp_region_lit ?_
      refine q_is rfl rfl (does_move (u := (.func (.func f_f) s_f c_f)) (ev rfl)) (by dsimp only [List.set]; try rfl) ?_
      refine q_is rfl rfl (does_move (u := (Fl r23)) (ev rfl)) (by dsimp only [List.set]; try rfl) ?_
      refine q_is rfl rfl (does_move (u := (Fl r30)) (ev rfl)) (by dsimp only [List.set]; try rfl) ?_
      refine seqd rfl rfl (does_callf (args := #[(Fl r23), (Fl r30)]) (ev rfl) hcal_f (evs rfl) (hg_f r23 r30 _ X13 )) ?_; rintro _ w34 ⟨E33, rfl⟩
      have X35 := Ext.gr X13 E33
      show wpList _ _ _ _ (fr [(.slice p_a L_a.length q_a), (.slice p_b L_b.length q_b), (.func (.func f_f) s_f c_f), Ud, Ud, Ud, (u9 6), (Iv (k : Int)), (Fl r23), (Fl r30), (.slice p_a L_a.length q_a), (Iv (L_a.length : Int)), (.slice p_b L_b.length q_b), (Iv (L_b.length : Int)), (Bo (icmp .neq (L_a.length : Int) (L_b.length : Int))), (.slice p_a L_a.length q_a), (Iv (L_a.length : Int)), (Iv (k : Int)), (Bo (icmp .lss (k : Int) (L_a.length : Int))), (Iv (k : Int)), (Pt b19 o20), (Fl r23), (.slice p_b L_b.length q_b), (Iv (k : Int)), (Pt b26 o27), (Fl r30), (.func (.func f_f) s_f c_f), (Fl r23), (Fl r30), (Bo (pr_f (cf .f32 r23) (cf .f32 r30))), (u9 30), (u9 31)]) _
      refine q_is rfl rfl (does_not (ev rfl)) (by dsimp only [List.set]; try rfl) ?_
      refine wpList_nil (hK32 _ _ ?_)
      refine wp_cond_split (t := !(pr_f (cf .f32 r23) (cf .f32 r30))) (ev rfl) (fun c36 => ?_) (fun c36 => ?_)
      · rw [Bool.not_eq_true'] at c36
        have c36' := c36
        refine wp_seq_k fun K37 hK37 => ?_
        refine wp_region_lit ?_
        refine q_is rfl rfl (does_assign (u := (Bo false)) (ev rfl)) (by dsimp only [List.set]; try rfl) ?_
        refine wpList_nil (hK37 _ _ ?_)
        refine wp_ret ?_
        dsimp only [Exit.then, Exit.inBlock]
        refine ret_val (v := (Bo false)) (res_T rfl (slot rfl)) X35 ?_
        try simp only [hel1, h24, hel2, h31] at c4 c16 c36
        have x38 : (sameX pr_f L_a L_b) = false := by first | exact (sameX_len (by omega)) | exact (sameX_not (by omega) (by assumption) (by assumption) (by simp_all)) | exact (sameX_all (by omega) (by omega) hs)
        exact (by first | rfl | rw [x38])
      rw [Bool.not_eq_false'] at c36
      have c36' := c36
      refine wp_skip (hK17 _ _ ?_)
      refine wp_region_lit ?_
      refine q_is rfl rfl (does_iarith (p := (k : Int)) (q := 1) (r := (k : Int) + 1) (ev rfl) (ev rfl) (.inl ⟨rfl, (in_i64 (by omega) (by omega)).symm⟩)) (by dsimp only [List.set]; try rfl) ?_
      refine q_is rfl rfl (does_move (u := (Iv ((k : Int) + 1))) (ev rfl)) (by dsimp only [List.set]; try rfl) ?_
      refine wpList_nil ?_
      refine ⟨k + 1, ⟨fun t => (([(.slice p_a L_a.length q_a), (.slice p_b L_b.length q_b), (.func (.func f_f) s_f c_f), Ud, Ud, Ud, (u9 6), (Iv (k : Int)), (Fl r23), (Fl r30), (.slice p_a L_a.length q_a), (Iv (L_a.length : Int)), (.slice p_b L_b.length q_b), (Iv (L_b.length : Int)), (Bo (icmp .neq (L_a.length : Int) (L_b.length : Int))), (.slice p_a L_a.length q_a), (Iv (L_a.length : Int)), (Iv ((k : Int) + 1)), (Bo (icmp .lss (k : Int) (L_a.length : Int))), (Iv (k : Int)), (Pt b19 o20), (Fl r23), (.slice p_b L_b.length q_b), (Iv (k : Int)), (Pt b26 o27), (Fl r30), (.func (.func f_f) s_f c_f), (Fl r23), (Fl r30), (Bo (pr_f (cf .f32 r23) (cf .f32 r30))), (Bo (!(pr_f (cf .f32 r23) (cf .f32 r30)))), (Iv ((k : Int) + 1))] : List Value)[t]?).getD undef, ?_, (Ext.gr E11 E33), ?_⟩, ?_⟩
      · first | rfl | (simp only [Nat.cast_add, Nat.cast_one, Int.natCast_add, Int.natCast_one]; rfl)
      · exact ⟨by omega, SameXTo.step hs (by assumption) (by assumption) (by simp_all)⟩
      · omega
    have c16' := c16
    (try simp only [icmp, Bool.and_eq_true, Bool.or_eq_true, Bool.and_eq_false_iff, Bool.or_eq_false_iff, Bool.not_eq_true', Bool.not_eq_false', decide_eq_true_eq, decide_eq_false_iff_not, beq_iff_eq, bne_iff_ne, beq_eq_false_iff_ne, bne_eq_false_iff_eq] at c16')
    refine wp_exit ?_
    refine hK7 _ _ ?_
    refine wp_seq_k fun K39 hK39 => ?_
    refine wp_region_lit ?_
    refine q_is rfl rfl (does_assign (u := (Bo true)) (ev rfl)) (by dsimp only [List.set]; try rfl) ?_
    refine wpList_nil (hK39 _ _ ?_)
    refine wp_ret ?_
    refine ret_val (v := (Bo true)) (res_T rfl (slot rfl)) X13 ?_
    have x40 : (sameX pr_f L_a L_b) = true := by first | exact (sameX_len (by omega)) | exact (sameX_not (by omega) (by assumption) (by assumption) (by simp_all)) | exact (sameX_all (by omega) (by omega) hs)
    exact (by first | rfl | rw [x40])

/- impl.isNaN -/
theorem c_impl_isNaN (x : Nat) (w : World) : Gives Try.prog 50 #[(Fl x)] w (fun v w' => v = (Bo (fcmp .neq (ford .f32 (cf .f32 x) (cf .f32 x))))) := by
  refine enter [(Fl x), Ud, Ud, Ud, Ud, Ud] Try.func50 rfl Try.ntmps50 rfl ?_
  refine wp_seq_k fun K1 hK1 => ?_
  refine wp_region_lit ?_
  refine q_is (l' := [(Fl x), Ud, (Bo false), Ud, Ud, Ud]) rfl rfl (does_assign (u := (Bo false)) (ev rfl)) rfl ?_
  refine wpList_nil (hK1 _ _ ?_)
  refine wp_seq_k fun K2 hK2 => ?_
  refine wp_region_lit ?_
  refine q_is (l' := [(Fl x), Ud, (Bo false), (Fl x), Ud, Ud]) rfl rfl (does_move (u := (Fl x)) (ev rfl)) rfl ?_
  refine q_is (l' := [(Fl x), Ud, (Bo false), (Fl x), (Fl x), Ud]) rfl rfl (does_move (u := (Fl x)) (ev rfl)) rfl ?_
  refine q_is (l' := [(Fl x), Ud, (Bo false), (Fl x), (Fl x), (Bo (fcmp .neq (ford .f32 (cf .f32 x) (cf .f32 x))))]) rfl rfl (does_fcmp (.inr (.inl rfl)) (ev rfl) (ev rfl)) rfl ?_
  refine q_is (l' := [(Fl x), Ud, (Bo (fcmp .neq (ford .f32 (cf .f32 x) (cf .f32 x)))), (Fl x), (Fl x), (Bo (fcmp .neq (ford .f32 (cf .f32 x) (cf .f32 x))))]) rfl rfl (does_assign (u := (Bo (fcmp .neq (ford .f32 (cf .f32 x) (cf .f32 x))))) (ev rfl)) rfl ?_
  refine wpList_nil (hK2 _ _ ?_)
  refine wp_ret ?_
  refine ret_val (v := (Bo (fcmp .neq (ford .f32 (cf .f32 x) (cf .f32 x))))) (res_T rfl (slot rfl)) (Ext.refl w) ?_
  exact rfl

/- impl.SameNumber -/
theorem c_impl_SameNumber (x_ : Nat) (y_ : Nat) (w : World) : Gives Try.prog 48 #[(Fl x_), (Fl y_)] w (fun v w' => v = (Bo (sameN (cf .f32 x_) (cf .f32 y_)))) := by
  refine enter [(Fl x_), (Fl y_), Ud, Ud, Ud, Ud, Ud, Ud, Ud, Ud, Ud, Ud, Ud, Ud, Ud, Ud, Ud, Ud, Ud, Ud, Ud, Ud] Try.func48 rfl Try.ntmps48 rfl ?_
  refine wp_seq_k fun K1 hK1 => ?_
  refine wp_region_lit ?_
  refine q_is (l' := [(Fl x_), (Fl y_), Ud, Ud, (Bo false), Ud, Ud, Ud, Ud, Ud, Ud, Ud, Ud, Ud, Ud, Ud, Ud, Ud, Ud, Ud, Ud, Ud]) rfl rfl (does_assign (u := (Bo false)) (ev rfl)) rfl ?_
  refine wpList_nil (hK1 _ _ ?_)
  refine wp_seq_k fun K2 hK2 => ?_
  refine wp_seq_k fun K3 hK3 => ?_
  obtain ⟨β1, hβ1⟩ : ∃ b : Bool, b = (fcmp .neq (ford .f32 (cf .f32 x_) (cf .f32 x_))) := ⟨_, rfl⟩
  obtain ⟨β2, hβ2⟩ : ∃ b : Bool, b = (fcmp .neq (ford .f32 (cf .f32 y_) (cf .f32 y_))) := ⟨_, rfl⟩
  refine region_text (
    [Fact.pure [] (fun v => v = (Fl x_)),
    Fact.pure [5] (fun v => v = (Bo β1)),
    Fact.pure [6] (fun v => v = (Bo β1)),
    Fact.pure [7] (fun v => β1 = false → v = (Fl y_)),
    Fact.pure [8, 7] (fun v => β1 = false → v = (Bo β2)),
    Fact.pure [7, 9] (fun v => v = (Bo (β1 || β2)))]) (by simp [Fact.pure, Fact.mem]) ?_
  refine RW_d (fun v4 => [(Fl x_), (Fl y_), Ud, Ud, (Bo false), v4, Ud, Ud, Ud, Ud, Ud, Ud, Ud, Ud, Ud, Ud, Ud, Ud, Ud, Ud, Ud, Ud]) rfl (fun _ => rfl) (fun u hu hF => ?_) (fun v4 => ?_)
  · clear hF
    refine doesG_un rfl ?_
    refine (does_move (u := (Fl x_)) (ev rfl)).mono ?_; rintro _ _ ⟨rfl, rfl⟩
    exact ⟨rfl, Ext.refl _⟩
  refine RW_d (fun v5 => [(Fl x_), (Fl y_), Ud, Ud, (Bo false), v4, v5, Ud, Ud, Ud, Ud, Ud, Ud, Ud, Ud, Ud, Ud, Ud, Ud, Ud, Ud, Ud]) rfl (fun _ => rfl) (fun u hu hF => ?_) (fun v5 => ?_)
  · have h5_ : v4 = (Fl x_) := hF.1
    clear hF
    refine doesG_un rfl ?_
    obtain rfl := h5_
    refine (does_call (args := #[(Fl x_)]) cal50 (evs rfl) (c_impl_isNaN x_ _)).mono ?_; rintro v u' ⟨hx, hv⟩
    exact ⟨hv.trans (by simp only [hβ1]), hx⟩
  refine RW_d (fun v6 => [(Fl x_), (Fl y_), Ud, Ud, (Bo false), v4, v5, v6, Ud, Ud, Ud, Ud, Ud, Ud, Ud, Ud, Ud, Ud, Ud, Ud, Ud, Ud]) rfl (fun _ => rfl) (fun u hu hF => ?_) (fun v6 => ?_)
  · have h6_ : v5 = (Bo β1) := hF.1
    clear hF
    refine doesG_un rfl ?_
    obtain rfl := h6_
    refine (does_move (u := (Bo β1)) (ev rfl)).mono ?_; rintro _ _ ⟨rfl, rfl⟩
    exact ⟨rfl, Ext.refl _⟩
  refine RW_d (fun v7 => [(Fl x_), (Fl y_), Ud, Ud, (Bo false), v4, v5, v6, v7, Ud, Ud, Ud, Ud, Ud, Ud, Ud, Ud, Ud, Ud, Ud, Ud, Ud]) rfl (fun _ => rfl) (fun u hu hF => ?_) (fun v7 => ?_)
  · have h7_ : v6 = (Bo β1) := hF.1
    clear hF
    obtain rfl := h7_
    refine doesG_g (b := β1) rfl (yld rfl rfl) (fun hg1 => ?_) (fun hc => ⟨fun hg1 => absurd hg1 hc, Ext.refl _⟩)
    refine (does_move (u := (Fl y_)) (ev rfl)).mono ?_; rintro _ _ ⟨rfl, rfl⟩
    exact ⟨fun _ => rfl, Ext.refl _⟩
  refine RW_d (fun v8 => [(Fl x_), (Fl y_), Ud, Ud, (Bo false), v4, v5, v6, v7, v8, Ud, Ud, Ud, Ud, Ud, Ud, Ud, Ud, Ud, Ud, Ud, Ud]) rfl (fun _ => rfl) (fun u hu hF => ?_) (fun v8 => ?_)
  · have h8_ : β1 = false → v7 = (Fl y_) := hF.1
    have h7_ : v6 = (Bo β1) := hF.2.1
    clear hF
    obtain rfl := h7_
    refine doesG_g (b := β1) rfl (yld rfl rfl) (fun hg1 => ?_) (fun hc => ⟨fun hg1 => absurd hg1 hc, Ext.refl _⟩)
    obtain rfl := h8_ hg1
    refine (does_call (args := #[(Fl y_)]) cal50 (evs rfl) (c_impl_isNaN y_ _)).mono ?_; rintro v u' ⟨hx, hv⟩
    exact ⟨fun _ => hv.trans (by simp only [hβ2]), hx⟩
  refine RW_d (fun v9 => [(Fl x_), (Fl y_), Ud, Ud, (Bo false), v4, v5, v6, v7, v8, v9, Ud, Ud, Ud, Ud, Ud, Ud, Ud, Ud, Ud, Ud, Ud]) rfl (fun _ => rfl) (fun u hu hF => ?_) (fun v9 => ?_)
  · have h7_ : v6 = (Bo β1) := hF.1
    have h9_ : β1 = false → v8 = (Bo β2) := hF.2.1
    clear hF
    refine doesG_un rfl ?_
    skip
    obtain rfl := h7_
    refine (does_pick (b := β1) (ev rfl) (ev rfl) (ev rfl)).mono ?_; rintro _ _ ⟨rfl, rfl⟩; refine ⟨?_, Ext.refl _⟩; skip
    cases hbb : β1 <;> simp [hbb] at h9_ ⊢
    all_goals (first | rfl | (subst h9_; rfl) | simp_all)
  refine RW_fin ?_; intro w10 E11 hP12
  obtain ⟨⟨⟨⟨⟨⟨-, -⟩, -⟩, -⟩, -⟩, -⟩, q13⟩ := hP12
  have X14 := Ext.gr (Ext.refl w) E11
  have q13 : v9 = (Bo (β1 || β2)) := q13
  obtain rfl := q13
  show wpList _ _ _ _ (fr [(Fl x_), (Fl y_), Ud, Ud, (Bo false), v4, v5, v6, v7, v8, (Bo (β1 || β2)), Ud, Ud, Ud, Ud, Ud, Ud, Ud, Ud, Ud, Ud, Ud]) _
  refine wpList_nil (hK3 _ _ ?_)
  refine wp_cond_split (t := β1 || β2) (ev rfl) (fun c15 => ?_) (fun c15 => ?_)
  · have c15' := c15
    (try simp only [hβ1, hβ2] at c15')
    (try simp only [icmp, Bool.and_eq_true, Bool.or_eq_true, Bool.and_eq_false_iff, Bool.or_eq_false_iff, Bool.not_eq_true', Bool.not_eq_false', decide_eq_true_eq, decide_eq_false_iff_not, beq_iff_eq, bne_iff_ne, beq_eq_false_iff_ne, bne_eq_false_iff_eq] at c15')
    refine wp_seq_k fun K16 hK16 => ?_
    obtain ⟨β3, hβ3⟩ : ∃ b : Bool, b = (fcmp .neq (ford .f32 (cf .f32 x_) (cf .f32 x_))) := ⟨_, rfl⟩
    obtain ⟨β4, hβ4⟩ : ∃ b : Bool, b = (fcmp .neq (ford .f32 (cf .f32 y_) (cf .f32 y_))) := ⟨_, rfl⟩
    refine region_text (
      [Fact.pure [] (fun v => v = (Fl x_)),
    Fact.pure [11] (fun v => v = (Bo β3)),
    Fact.pure [12] (fun v => v = (Bo β3)),
    Fact.pure [13] (fun v => β3 = true → v = (Fl y_)),
    Fact.pure [14, 13] (fun v => β3 = true → v = (Bo β4)),
    Fact.pure [13, 15] (fun v => v = (Bo (β3 && β4)))]) (by simp [Fact.pure, Fact.mem]) ?_
    refine RW_d (fun v17 => [(Fl x_), (Fl y_), Ud, Ud, (Bo false), v4, v5, v6, v7, v8, (Bo (β1 || β2)), v17, Ud, Ud, Ud, Ud, Ud, Ud, Ud, Ud, Ud, Ud]) rfl (fun _ => rfl) (fun u hu hF => ?_) (fun v17 => ?_)
    · clear hF
      refine doesG_un rfl ?_
      refine (does_move (u := (Fl x_)) (ev rfl)).mono ?_; rintro _ _ ⟨rfl, rfl⟩
      exact ⟨rfl, Ext.refl _⟩
    refine RW_d (fun v18 => [(Fl x_), (Fl y_), Ud, Ud, (Bo false), v4, v5, v6, v7, v8, (Bo (β1 || β2)), v17, v18, Ud, Ud, Ud, Ud, Ud, Ud, Ud, Ud, Ud]) rfl (fun _ => rfl) (fun u hu hF => ?_) (fun v18 => ?_)
    · have h11_ : v17 = (Fl x_) := hF.1
      clear hF
      refine doesG_un rfl ?_
      obtain rfl := h11_
      refine (does_call (args := #[(Fl x_)]) cal50 (evs rfl) (c_impl_isNaN x_ _)).mono ?_; rintro v u' ⟨hx, hv⟩
      exact ⟨hv.trans (by simp only [hβ3]), hx⟩
    refine RW_d (fun v19 => [(Fl x_), (Fl y_), Ud, Ud, (Bo false), v4, v5, v6, v7, v8, (Bo (β1 || β2)), v17, v18, v19, Ud, Ud, Ud, Ud, Ud, Ud, Ud, Ud]) rfl (fun _ => rfl) (fun u hu hF => ?_) (fun v19 => ?_)
    · have h12_ : v18 = (Bo β3) := hF.1
      clear hF
      refine doesG_un rfl ?_
      obtain rfl := h12_
      refine (does_move (u := (Bo β3)) (ev rfl)).mono ?_; rintro _ _ ⟨rfl, rfl⟩
      exact ⟨rfl, Ext.refl _⟩
    refine RW_d (fun v20 => [(Fl x_), (Fl y_), Ud, Ud, (Bo false), v4, v5, v6, v7, v8, (Bo (β1 || β2)), v17, v18, v19, v20, Ud, Ud, Ud, Ud, Ud, Ud, Ud]) rfl (fun _ => rfl) (fun u hu hF => ?_) (fun v20 => ?_)
    · have h13_ : v19 = (Bo β3) := hF.1
      clear hF
      obtain rfl := h13_
      refine doesG_g (b := β3) rfl (yld rfl rfl) (fun hg1 => ?_) (fun hc => ⟨fun hg1 => absurd hg1 hc, Ext.refl _⟩)
      refine (does_move (u := (Fl y_)) (ev rfl)).mono ?_; rintro _ _ ⟨rfl, rfl⟩
      exact ⟨fun _ => rfl, Ext.refl _⟩
    refine RW_d (fun v21 => [(Fl x_), (Fl y_), Ud, Ud, (Bo false), v4, v5, v6, v7, v8, (Bo (β1 || β2)), v17, v18, v19, v20, v21, Ud, Ud, Ud, Ud, Ud, Ud]) rfl (fun _ => rfl) (fun u hu hF => ?_) (fun v21 => ?_)
    · have h14_ : β3 = true → v20 = (Fl y_) := hF.1
      have h13_ : v19 = (Bo β3) := hF.2.1
      clear hF
      obtain rfl := h13_
      refine doesG_g (b := β3) rfl (yld rfl rfl) (fun hg1 => ?_) (fun hc => ⟨fun hg1 => absurd hg1 hc, Ext.refl _⟩)
      obtain rfl := h14_ hg1
      refine (does_call (args := #[(Fl y_)]) cal50 (evs rfl) (c_impl_isNaN y_ _)).mono ?_; rintro v u' ⟨hx, hv⟩
      exact ⟨fun _ => hv.trans (by simp only [hβ4]), hx⟩
    refine RW_d (fun v22 => [(Fl x_), (Fl y_), Ud, Ud, (Bo false), v4, v5, v6, v7, v8, (Bo (β1 || β2)), v17, v18, v19, v20, v21, v22, Ud, Ud, Ud, Ud, Ud]) rfl (fun _ => rfl) (fun u hu hF => ?_) (fun v22 => ?_)
    · have h13_ : v19 = (Bo β3) := hF.1
      have h15_ : β3 = true → v21 = (Bo β4) := hF.2.1
      clear hF
      refine doesG_un rfl ?_
      skip
      obtain rfl := h13_
      refine (does_pick (b := β3) (ev rfl) (ev rfl) (ev rfl)).mono ?_; rintro _ _ ⟨rfl, rfl⟩; refine ⟨?_, Ext.refl _⟩; skip
      cases hbb : β3 <;> simp [hbb] at h15_ ⊢
      all_goals (first | rfl | (subst h15_; rfl) | simp_all)
    refine RW_fin ?_; intro w23 E24 hP25
    obtain ⟨⟨⟨⟨⟨⟨-, -⟩, -⟩, -⟩, -⟩, -⟩, q26⟩ := hP25
    have X27 := Ext.gr X14 E24
    have q26 : v22 = (Bo (β3 && β4)) := q26
    obtain rfl := q26
    show wpList _ _ _ _ (fr [(Fl x_), (Fl y_), Ud, Ud, (Bo false), v4, v5, v6, v7, v8, (Bo (β1 || β2)), v17, v18, v19, v20, v21, (Bo (β3 && β4)), Ud, Ud, Ud, Ud, Ud]) _
    refine q_is (l' := [(Fl x_), (Fl y_), Ud, Ud, (Bo (β3 && β4)), v4, v5, v6, v7, v8, (Bo (β1 || β2)), v17, v18, v19, v20, v21, (Bo (β3 && β4)), Ud, Ud, Ud, Ud, Ud]) rfl rfl (does_assign (u := (Bo (β3 && β4))) (ev rfl)) rfl ?_
    refine wpList_nil (hK16 _ _ ?_)
    refine wp_ret ?_
    dsimp only [Exit.then, Exit.inBlock]
    refine ret_val (v := (Bo (β3 && β4))) (res_T rfl (slot rfl)) X27 ?_
    try simp only [hβ1, hβ2, hβ3, hβ4] at c15
    have x28 : (sameN (cf .f32 x_) (cf .f32 y_)) = (β3 && β4) := by first | (simp only [hβ1, hβ2, hβ3, hβ4, c15]; exact sameN_nan (by assumption)) | (simp only [hβ1, hβ2, hβ3, hβ4, c15]; exact sameN_num (by assumption)) | exact sameN_nan (by assumption) | exact sameN_num (by assumption)
    exact (by first | rfl | rw [x28])
  have c15' := c15
  (try simp only [hβ1, hβ2] at c15')
  (try simp only [icmp, Bool.and_eq_true, Bool.or_eq_true, Bool.and_eq_false_iff, Bool.or_eq_false_iff, Bool.not_eq_true', Bool.not_eq_false', decide_eq_true_eq, decide_eq_false_iff_not, beq_iff_eq, bne_iff_ne, beq_eq_false_iff_ne, bne_eq_false_iff_eq] at c15')
  refine wp_skip (hK2 _ _ ?_)
  refine wp_seq_k fun K29 hK29 => ?_
  refine wp_region_lit ?_
  refine q_is (l' := [(Fl x_), (Fl y_), Ud, Ud, (Bo false), v4, v5, v6, v7, v8, (Bo (β1 || β2)), Ud, Ud, Ud, Ud, Ud, Ud, (Fl x_), Ud, Ud, Ud, Ud]) rfl rfl (does_move (u := (Fl x_)) (ev rfl)) rfl ?_
  refine q_is (l' := [(Fl x_), (Fl y_), Ud, Ud, (Bo false), v4, v5, v6, v7, v8, (Bo (β1 || β2)), Ud, Ud, Ud, Ud, Ud, Ud, (Fl x_), (.int .u32 (x_ : Int)), Ud, Ud, Ud]) rfl rfl (does_bits (p := x_) (ev rfl) cfb49) rfl ?_
  refine q_is (l' := [(Fl x_), (Fl y_), Ud, Ud, (Bo false), v4, v5, v6, v7, v8, (Bo (β1 || β2)), Ud, Ud, Ud, Ud, Ud, Ud, (Fl x_), (.int .u32 (x_ : Int)), (Fl y_), Ud, Ud]) rfl rfl (does_move (u := (Fl y_)) (ev rfl)) rfl ?_
  refine q_is (l' := [(Fl x_), (Fl y_), Ud, Ud, (Bo false), v4, v5, v6, v7, v8, (Bo (β1 || β2)), Ud, Ud, Ud, Ud, Ud, Ud, (Fl x_), (.int .u32 (x_ : Int)), (Fl y_), (.int .u32 (y_ : Int)), Ud]) rfl rfl (does_bits (p := y_) (ev rfl) cfb49) rfl ?_
  refine q_is (l' := [(Fl x_), (Fl y_), Ud, Ud, (Bo false), v4, v5, v6, v7, v8, (Bo (β1 || β2)), Ud, Ud, Ud, Ud, Ud, Ud, (Fl x_), (.int .u32 (x_ : Int)), (Fl y_), (.int .u32 (y_ : Int)), (Bo (icmp .eql (x_ : Int) (y_ : Int)))]) rfl rfl (does_icmp (p := (x_ : Int)) (q := (y_ : Int)) (.inl rfl) (ev rfl) (ev rfl)) rfl ?_
  refine q_is (l' := [(Fl x_), (Fl y_), Ud, Ud, (Bo (icmp .eql (x_ : Int) (y_ : Int))), v4, v5, v6, v7, v8, (Bo (β1 || β2)), Ud, Ud, Ud, Ud, Ud, Ud, (Fl x_), (.int .u32 (x_ : Int)), (Fl y_), (.int .u32 (y_ : Int)), (Bo (icmp .eql (x_ : Int) (y_ : Int)))]) rfl rfl (does_assign (u := (Bo (icmp .eql (x_ : Int) (y_ : Int)))) (ev rfl)) rfl ?_
  refine wpList_nil (hK29 _ _ ?_)
  refine wp_ret ?_
  refine ret_val (v := (Bo (icmp .eql (x_ : Int) (y_ : Int)))) (res_T rfl (slot rfl)) X14 ?_
  try simp only [hβ1, hβ2] at c15
  have x30 : (sameN (cf .f32 x_) (cf .f32 y_)) = (icmp .eql (x_ : Int) (y_ : Int)) := by first | (simp only [hβ1, hβ2, c15]; exact sameN_nan (by assumption)) | (simp only [hβ1, hβ2, c15]; exact sameN_num (by assumption)) | exact sameN_nan (by assumption) | exact sameN_num (by assumption)
  exact (by first | rfl | rw [x30])

/- impl.sameList -/
theorem c_impl_sameList (a : Value) (L_a : List Nat) (b : Value) (L_b : List Nat) (w : World) (hv_a : Sl RF 1 w a L_a) (hv_b : Sl RF 1 w b L_b) : Gives Try.prog 40 #[a, b] w (fun v w' => v = (Bo (sameX sameN L_a L_b))) := by
  have hlen_a := Sl.len hv_a; obtain ⟨p_a, q_a, rfl⟩ := Sl.shape hv_a
  have hlen_b := Sl.len hv_b; obtain ⟨p_b, q_b, rfl⟩ := Sl.shape hv_b
  refine enter [(.slice p_a L_a.length q_a), (.slice p_b L_b.length q_b), Ud, Ud, Ud, Ud, Ud, Ud] Try.func40 rfl Try.ntmps40 rfl ?_
  refine wp_seq_k fun K1 hK1 => ?_
  refine wp_region_lit ?_
  refine q_is (l' := [(.slice p_a L_a.length q_a), (.slice p_b L_b.length q_b), Ud, Ud, (Bo false), Ud, Ud, Ud]) rfl rfl (does_assign (u := (Bo false)) (ev rfl)) rfl ?_
  refine wpList_nil (hK1 _ _ ?_)
  refine wp_seq_k fun K2 hK2 => ?_
  refine wp_region_lit ?_
  refine q_is (l' := [(.slice p_a L_a.length q_a), (.slice p_b L_b.length q_b), Ud, Ud, (Bo false), (.slice p_a L_a.length q_a), Ud, Ud]) rfl rfl (does_move (u := (.slice p_a L_a.length q_a)) (ev rfl)) rfl ?_
  refine q_is (l' := [(.slice p_a L_a.length q_a), (.slice p_b L_b.length q_b), Ud, Ud, (Bo false), (.slice p_a L_a.length q_a), (.slice p_b L_b.length q_b), Ud]) rfl rfl (does_move (u := (.slice p_b L_b.length q_b)) (ev rfl)) rfl ?_
  refine seqd rfl rfl (does_call (args := #[(.slice p_a L_a.length q_a), (.slice p_b L_b.length q_b), (.func (.func 48) #[] #[])]) cal47 (evs rfl) (c_slices_EqualFunc_float32_float32_float32_float32 (.slice p_a L_a.length q_a) L_a (.slice p_b L_b.length q_b) L_b (.func (.func 48) #[] #[]) (fun x y => sameN x y) _ hv_a hv_b ⟨48, #[], #[], rfl, cal48, fun r0 r1 u hu'  => by simpa using (c_impl_SameNumber r0 r1 u)⟩)) ?_; rintro _ w4 ⟨E3, rfl⟩
  have X5 := Ext.gr (Ext.refl w) E3
  show wpList _ _ _ _ (fr [(.slice p_a L_a.length q_a), (.slice p_b L_b.length q_b), Ud, Ud, (Bo false), (.slice p_a L_a.length q_a), (.slice p_b L_b.length q_b), (Bo (sameX (fun x y => sameN x y) L_a L_b))]) _
  refine q_is (l' := [(.slice p_a L_a.length q_a), (.slice p_b L_b.length q_b), Ud, Ud, (Bo (sameX (fun x y => sameN x y) L_a L_b)), (.slice p_a L_a.length q_a), (.slice p_b L_b.length q_b), (Bo (sameX (fun x y => sameN x y) L_a L_b))]) rfl rfl (does_assign (u := (Bo (sameX (fun x y => sameN x y) L_a L_b))) (ev rfl)) rfl ?_
  refine wpList_nil (hK2 _ _ ?_)
  refine wp_ret ?_
  refine ret_val (v := (Bo (sameX (fun x y => sameN x y) L_a L_b))) (res_T rfl (slot rfl)) X5 ?_
  have x6 : (sameX sameN L_a L_b) = (sameX (fun x y => sameN x y) L_a L_b) := by first | with_reducible rfl | (simp only []; done) | (simp []; done) | rfl
  exact (by first | rfl | rw [x6])

end Go.Proofs.Ytodelpmhbdaocaa
