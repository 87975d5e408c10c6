/- contracts of functions, each walked once -/
import Derived.Test.YtiagimgdjngnfaaTy
import Derived.Test.YtiagimgdjngnfaaUni
import Derived.Test.YtiagimgdjngnfaaOwn
import Derived.Test.YtiagimgdjngnfaaByt
namespace Go.Proofs.Ytiagimgdjngnfaa
open Go Go.RowKit
set_option maxRecDepth 100000
set_option maxHeartbeats 3200000
set_option linter.unusedVariables false
set_option linter.unusedSimpArgs false

/- laws.szFloat32S -/
theorem c_laws_szFloat32S (a : Value) (L_a : List Nat) (left : Int) (w : World) (hv_a : Sl RF 1 w a L_a) (hle : left ≤ 1048576) (hge : 0 ≤ left) : Gives Try.prog 80 #[a, (Iv left)] w (fun v w' => ∃ i_1 : Int, v = (Iv i_1) ∧ (i_1 < 0 ∨ ((L_a.length : Int) ≤ left ∧ i_1 = left - L_a.length ∧ 0 ≤ i_1))) := by
  have hlen_a := Sl.len hv_a; obtain ⟨p_a, q_a, rfl⟩ := Sl.shape hv_a
  refine enter [(.slice p_a L_a.length q_a), (Iv left), Ud, Ud, Ud, Ud, Ud, Ud, Ud, Ud, Ud, Ud] Try.func80 rfl Try.ntmps80 rfl ?_
  refine wp_seq_k fun K1 hK1 => ?_
  refine wp_region_lit ?_
  refine q_is (l' := [(.slice p_a L_a.length q_a), (Iv left), Ud, Ud, (Iv 0), Ud, Ud, Ud, Ud, Ud, Ud, Ud]) rfl rfl (does_assign (u := (Iv 0)) (ev rfl)) rfl ?_
  refine wpList_nil (hK1 _ _ ?_)
  refine wp_seq_k fun K2 hK2 => ?_
  refine wp_region_lit ?_
  refine q_is (l' := [(.slice p_a L_a.length q_a), (Iv left), Ud, Ud, (Iv 0), (Iv left), Ud, Ud, Ud, Ud, Ud, Ud]) rfl rfl (does_move (u := (Iv left)) (ev rfl)) rfl ?_
  refine q_is (l' := [(.slice p_a L_a.length q_a), (Iv left), Ud, Ud, (Iv 0), (Iv left), (.slice p_a L_a.length q_a), Ud, Ud, Ud, Ud, Ud]) rfl rfl (does_move (u := (.slice p_a L_a.length q_a)) (ev rfl)) rfl ?_
  refine q_is (l' := [(.slice p_a L_a.length q_a), (Iv left), Ud, Ud, (Iv 0), (Iv left), (.slice p_a L_a.length q_a), (Iv (L_a.length : Int)), Ud, Ud, Ud, Ud]) rfl rfl (does_len_slice Try.underlying97 (ev rfl)) rfl ?_
  refine q_is (l' := [(.slice p_a L_a.length q_a), (Iv left), Ud, Ud, (Iv 0), (Iv left), (.slice p_a L_a.length q_a), (Iv (L_a.length : Int)), (Iv (left - (L_a.length : Int))), Ud, Ud, Ud]) rfl rfl (does_iarith (p := left) (q := (L_a.length : Int)) (r := left - (L_a.length : Int)) (ev rfl) (ev rfl) (.inr (.inl ⟨rfl, (in_i64 (by omega) (by omega)).symm⟩))) rfl ?_
  refine q_is (l' := [(.slice p_a L_a.length q_a), (Iv (left - (L_a.length : Int))), Ud, Ud, (Iv 0), (Iv left), (.slice p_a L_a.length q_a), (Iv (L_a.length : Int)), (Iv (left - (L_a.length : Int))), Ud, Ud, Ud]) rfl rfl (does_assign (u := (Iv (left - (L_a.length : Int)))) (ev rfl)) rfl ?_
  refine wpList_nil (hK2 _ _ ?_)
  refine wp_seq_k fun K3 hK3 => ?_
  refine wp_seq_k fun K4 hK4 => ?_
  refine wp_region_lit ?_
  refine q_is (l' := [(.slice p_a L_a.length q_a), (Iv (left - (L_a.length : Int))), Ud, Ud, (Iv 0), (Iv left), (.slice p_a L_a.length q_a), (Iv (L_a.length : Int)), (Iv (left - (L_a.length : Int))), (Iv (left - (L_a.length : Int))), Ud, Ud]) rfl rfl (does_move (u := (Iv (left - (L_a.length : Int)))) (ev rfl)) rfl ?_
  refine q_is (l' := [(.slice p_a L_a.length q_a), (Iv (left - (L_a.length : Int))), Ud, Ud, (Iv 0), (Iv left), (.slice p_a L_a.length q_a), (Iv (L_a.length : Int)), (Iv (left - (L_a.length : Int))), (Iv (left - (L_a.length : Int))), (Bo (icmp .lss (left - (L_a.length : Int)) 0)), Ud]) rfl rfl (does_icmp (p := left - (L_a.length : Int)) (q := 0) (.inr (.inr (.inl rfl))) (ev rfl) (ev rfl)) rfl ?_
  refine wpList_nil (hK4 _ _ ?_)
  refine wp_cond_split (t := icmp .lss (left - (L_a.length : Int)) 0) (ev rfl) (fun c5 => ?_) (fun c5 => ?_)
  · have c5' := c5
    (try simp only [icmp, Bool.and_eq_true, Bool.or_eq_true, Bool.and_eq_false_iff, Bool.or_eq_false_iff, Bool.not_eq_true', Bool.not_eq_false', decide_eq_true_eq, decide_eq_false_iff_not, beq_iff_eq, bne_iff_ne, beq_eq_false_iff_ne, bne_eq_false_iff_eq] at c5')
    refine wp_seq_k fun K6 hK6 => ?_
    refine wp_region_lit ?_
    refine q_is (l' := [(.slice p_a L_a.length q_a), (Iv (left - (L_a.length : Int))), Ud, Ud, (Iv (-1)), (Iv left), (.slice p_a L_a.length q_a), (Iv (L_a.length : Int)), (Iv (left - (L_a.length : Int))), (Iv (left - (L_a.length : Int))), (Bo (icmp .lss (left - (L_a.length : Int)) 0)), Ud]) rfl rfl (does_assign (u := (Iv (-1))) (ev rfl)) rfl ?_
    refine wpList_nil (hK6 _ _ ?_)
    refine wp_ret ?_
    dsimp only [Exit.then, Exit.inBlock]
    refine ret_val (v := (Iv (-1))) (res_T rfl (slot rfl)) (Ext.refl w) ?_
    have x7 : (-1) < 0 ∨ ((L_a.length : Int) ≤ left ∧ (-1) = left - L_a.length ∧ 0 ≤ (-1)) := by omega
    exact ⟨(-1), rfl, x7⟩
  have c5' := c5
  (try simp only [icmp, Bool.and_eq_true, Bool.or_eq_true, Bool.and_eq_false_iff, Bool.or_eq_false_iff, Bool.not_eq_true', Bool.not_eq_false', decide_eq_true_eq, decide_eq_false_iff_not, beq_iff_eq, bne_iff_ne, beq_eq_false_iff_ne, bne_eq_false_iff_eq] at c5')
  refine wp_skip (hK3 _ _ ?_)
  refine wp_seq_k fun K8 hK8 => ?_
  refine wp_region_lit ?_
  refine q_is (l' := [(.slice p_a L_a.length q_a), (Iv (left - (L_a.length : Int))), Ud, Ud, (Iv 0), (Iv left), (.slice p_a L_a.length q_a), (Iv (L_a.length : Int)), (Iv (left - (L_a.length : Int))), (Iv (left - (L_a.length : Int))), (Bo (icmp .lss (left - (L_a.length : Int)) 0)), (Iv (left - (L_a.length : Int)))]) rfl rfl (does_move (u := (Iv (left - (L_a.length : Int)))) (ev rfl)) rfl ?_
  refine q_is (l' := [(.slice p_a L_a.length q_a), (Iv (left - (L_a.length : Int))), Ud, Ud, (Iv (left - (L_a.length : Int))), (Iv left), (.slice p_a L_a.length q_a), (Iv (L_a.length : Int)), (Iv (left - (L_a.length : Int))), (Iv (left - (L_a.length : Int))), (Bo (icmp .lss (left - (L_a.length : Int)) 0)), (Iv (left - (L_a.length : Int)))]) rfl rfl (does_assign (u := (Iv (left - (L_a.length : Int)))) (ev rfl)) rfl ?_
  refine wpList_nil (hK8 _ _ ?_)
  refine wp_ret ?_
  refine ret_val (v := (Iv (left - (L_a.length : Int)))) (res_T rfl (slot rfl)) (Ext.refl w) ?_
  have x9 : (left - (L_a.length : Int)) < 0 ∨ ((L_a.length : Int) ≤ left ∧ (left - (L_a.length : Int)) = left - L_a.length ∧ 0 ≤ (left - (L_a.length : Int))) := by omega
  exact ⟨(left - (L_a.length : Int)), rfl, x9⟩

/- laws.szNode -/
theorem c_laws_szNode (a : List Value) (A_a : NodeT) (left : Int) (w : World) (hv_a : RNodeT w A_a a) (hle : left ≤ 1048576) (hge : 0 ≤ left) : Gives Try.prog 48 #[(.agg a.toArray), (Iv left)] w (fun v w' => ∃ i_1 : Int, v = (Iv i_1) ∧ (i_1 < 0 ∨ ((A_a.nums.length : Int) ≤ left ∧ i_1 = left - A_a.nums.length ∧ 0 ≤ i_1))) := by
  obtain ⟨y1, rfl, h2⟩ := hv_a
  have hs5 := h2; have hs5l := Sl.len h2; obtain ⟨p3, q4, rfl⟩ := Sl.shape h2
  refine enter [(.agg #[(Iv A_a.kind), (Iv A_a.a), (Iv A_a.b), (.slice p3 A_a.nums.length q4)]), (Iv left), Ud, Ud, Ud, Ud, Ud, Ud, Ud, Ud, Ud, Ud] Try.func48 rfl Try.ntmps48 rfl ?_
  refine wp_seq_k fun K6 hK6 => ?_
  refine wp_region_lit ?_
  refine seqd rfl rfl (does_box (u := (.agg #[(Iv A_a.kind), (Iv A_a.a), (Iv A_a.b), (.slice p3 A_a.nums.length q4)])) (ev rfl)) ?_; rintro _ w11 ⟨b7, rfl, hb8, hB9, E10⟩
  have g12 : w.heap.size ≤ b7 := Nat.le_trans (Below.size (Ext.refl w)) hb8
  change Blk _ _ [(Iv A_a.kind), (Iv A_a.a), (Iv A_a.b), (.slice p3 A_a.nums.length q4)] at hB9
  have X13 := Ext.gr (Ext.refl w) E10
  show wpList _ _ _ _ (fr [(.agg #[(Iv A_a.kind), (Iv A_a.a), (Iv A_a.b), (.slice p3 A_a.nums.length q4)]), (Iv left), (Pt b7 0), Ud, Ud, Ud, Ud, Ud, Ud, Ud, Ud, Ud]) _
  refine q_is (l' := [(.agg #[(Iv A_a.kind), (Iv A_a.a), (Iv A_a.b), (.slice p3 A_a.nums.length q4)]), (Iv left), (Pt b7 0), Ud, (Iv 0), Ud, Ud, Ud, Ud, Ud, Ud, Ud]) rfl rfl (does_assign (u := (Iv 0)) (ev rfl)) rfl ?_
  refine wpList_nil (hK6 _ _ ?_)
  refine wp_seq_k fun K14 hK14 => ?_
  refine wp_region_lit ?_
  refine q_is (l' := [(.agg #[(Iv A_a.kind), (Iv A_a.a), (Iv A_a.b), (.slice p3 A_a.nums.length q4)]), (Iv left), (Pt b7 0), Ud, (Iv 0), (Pt b7 3), Ud, Ud, Ud, Ud, Ud, Ud]) rfl rfl (does_fieldAddr (ev rfl) fa99_3) rfl ?_
  refine q_is (l' := [(.agg #[(Iv A_a.kind), (Iv A_a.a), (Iv A_a.b), (.slice p3 A_a.nums.length q4)]), (Iv left), (Pt b7 0), Ud, (Iv 0), (Pt b7 3), (.slice p3 A_a.nums.length q4), Ud, Ud, Ud, Ud, Ud]) rfl rfl (does_load (u := (.slice p3 A_a.nums.length q4)) (ev rfl) Try.isAgg97 (Cells.at (Blk.cells hB9) 3 rfl)) rfl ?_
  refine q_is (l' := [(.agg #[(Iv A_a.kind), (Iv A_a.a), (Iv A_a.b), (.slice p3 A_a.nums.length q4)]), (Iv left), (Pt b7 0), Ud, (Iv 0), (Pt b7 3), (.slice p3 A_a.nums.length q4), (Iv left), Ud, Ud, Ud, Ud]) rfl rfl (does_move (u := (Iv left)) (ev rfl)) rfl ?_
  refine seqd rfl rfl (does_call (args := #[(.slice p3 A_a.nums.length q4), (Iv left)]) cal80 (evs rfl) (c_laws_szFloat32S (.slice p3 A_a.nums.length q4) A_a.nums left _ (Sl.ext hs5 RF.mono X13) (by omega) (by omega))) ?_; rintro _ w16 ⟨E15, ⟨i17, rfl, h18⟩⟩
  have X19 := Ext.gr X13 E15
  show wpList _ _ _ _ (fr [(.agg #[(Iv A_a.kind), (Iv A_a.a), (Iv A_a.b), (.slice p3 A_a.nums.length q4)]), (Iv left), (Pt b7 0), Ud, (Iv 0), (Pt b7 3), (.slice p3 A_a.nums.length q4), (Iv left), (Iv i17), Ud, Ud, Ud]) _
  refine q_is (l' := [(.agg #[(Iv A_a.kind), (Iv A_a.a), (Iv A_a.b), (.slice p3 A_a.nums.length q4)]), (Iv i17), (Pt b7 0), Ud, (Iv 0), (Pt b7 3), (.slice p3 A_a.nums.length q4), (Iv left), (Iv i17), Ud, Ud, Ud]) rfl rfl (does_assign (u := (Iv i17)) (ev rfl)) rfl ?_
  refine wpList_nil (hK14 _ _ ?_)
  refine wp_seq_k fun K20 hK20 => ?_
  refine wp_seq_k fun K21 hK21 => ?_
  refine wp_region_lit ?_
  refine q_is (l' := [(.agg #[(Iv A_a.kind), (Iv A_a.a), (Iv A_a.b), (.slice p3 A_a.nums.length q4)]), (Iv i17), (Pt b7 0), Ud, (Iv 0), (Pt b7 3), (.slice p3 A_a.nums.length q4), (Iv left), (Iv i17), (Iv i17), Ud, Ud]) rfl rfl (does_move (u := (Iv i17)) (ev rfl)) rfl ?_
  refine q_is (l' := [(.agg #[(Iv A_a.kind), (Iv A_a.a), (Iv A_a.b), (.slice p3 A_a.nums.length q4)]), (Iv i17), (Pt b7 0), Ud, (Iv 0), (Pt b7 3), (.slice p3 A_a.nums.length q4), (Iv left), (Iv i17), (Iv i17), (Bo (icmp .lss i17 0)), Ud]) rfl rfl (does_icmp (p := i17) (q := 0) (.inr (.inr (.inl rfl))) (ev rfl) (ev rfl)) rfl ?_
  refine wpList_nil (hK21 _ _ ?_)
  refine wp_cond_split (t := icmp .lss i17 0) (ev rfl) (fun c22 => ?_) (fun c22 => ?_)
  · have c22' := c22
    (try simp only [icmp, Bool.and_eq_true, Bool.or_eq_true, Bool.and_eq_false_iff, Bool.or_eq_false_iff, Bool.not_eq_true', Bool.not_eq_false', decide_eq_true_eq, decide_eq_false_iff_not, beq_iff_eq, bne_iff_ne, beq_eq_false_iff_ne, bne_eq_false_iff_eq] at c22')
    refine wp_seq_k fun K23 hK23 => ?_
    refine wp_region_lit ?_
    refine q_is (l' := [(.agg #[(Iv A_a.kind), (Iv A_a.a), (Iv A_a.b), (.slice p3 A_a.nums.length q4)]), (Iv i17), (Pt b7 0), Ud, (Iv (-1)), (Pt b7 3), (.slice p3 A_a.nums.length q4), (Iv left), (Iv i17), (Iv i17), (Bo (icmp .lss i17 0)), Ud]) rfl rfl (does_assign (u := (Iv (-1))) (ev rfl)) rfl ?_
    refine wpList_nil (hK23 _ _ ?_)
    refine wp_ret ?_
    dsimp only [Exit.then, Exit.inBlock]
    refine ret_val (v := (Iv (-1))) (res_T rfl (slot rfl)) X19 ?_
    have x24 : (-1) < 0 ∨ ((A_a.nums.length : Int) ≤ left ∧ (-1) = left - A_a.nums.length ∧ 0 ≤ (-1)) := by omega
    exact ⟨(-1), rfl, x24⟩
  have c22' := c22
  (try simp only [icmp, Bool.and_eq_true, Bool.or_eq_true, Bool.and_eq_false_iff, Bool.or_eq_false_iff, Bool.not_eq_true', Bool.not_eq_false', decide_eq_true_eq, decide_eq_false_iff_not, beq_iff_eq, bne_iff_ne, beq_eq_false_iff_ne, bne_eq_false_iff_eq] at c22')
  refine wp_skip (hK20 _ _ ?_)
  refine wp_seq_k fun K25 hK25 => ?_
  refine wp_region_lit ?_
  refine q_is (l' := [(.agg #[(Iv A_a.kind), (Iv A_a.a), (Iv A_a.b), (.slice p3 A_a.nums.length q4)]), (Iv i17), (Pt b7 0), Ud, (Iv 0), (Pt b7 3), (.slice p3 A_a.nums.length q4), (Iv left), (Iv i17), (Iv i17), (Bo (icmp .lss i17 0)), (Iv i17)]) rfl rfl (does_move (u := (Iv i17)) (ev rfl)) rfl ?_
  refine q_is (l' := [(.agg #[(Iv A_a.kind), (Iv A_a.a), (Iv A_a.b), (.slice p3 A_a.nums.length q4)]), (Iv i17), (Pt b7 0), Ud, (Iv i17), (Pt b7 3), (.slice p3 A_a.nums.length q4), (Iv left), (Iv i17), (Iv i17), (Bo (icmp .lss i17 0)), (Iv i17)]) rfl rfl (does_assign (u := (Iv i17)) (ev rfl)) rfl ?_
  refine wpList_nil (hK25 _ _ ?_)
  refine wp_ret ?_
  refine ret_val (v := (Iv i17)) (res_T rfl (slot rfl)) X19 ?_
  have x26 : i17 < 0 ∨ ((A_a.nums.length : Int) ≤ left ∧ i17 = left - A_a.nums.length ∧ 0 ≤ i17) := by omega
  exact ⟨i17, rfl, x26⟩

/- laws.szNodeS -/
theorem c_laws_szNodeS (a : Value) (L_a : List NodeT) (left : Int) (w : World) (hv_a : Sl RNodeT 4 w a L_a) (hle : left ≤ 1048576) (hge : 0 ≤ left) : Gives Try.prog 22 #[a, (Iv left)] w (fun v w' => ∃ i_1 : Int, v = (Iv i_1) ∧ (i_1 < 0 ∨ ((ndTot L_a : Int) ≤ left ∧ i_1 = left - ndTot L_a ∧ 0 ≤ i_1))) := by
  have hlen_a := Sl.len hv_a; obtain ⟨p_a, q_a, rfl⟩ := Sl.shape hv_a
  refine enter [(.slice p_a L_a.length q_a), (Iv left), Ud, Ud, Ud, Ud, Ud, Ud, Ud, Ud, Ud, Ud, Ud, Ud, Ud, Ud, Ud, Ud, Ud, Ud, Ud, Ud, Ud, Ud, Ud, Ud, Ud] Try.func22 rfl Try.ntmps22 rfl ?_
  refine wp_seq_k fun K1 hK1 => ?_
  refine wp_region_lit ?_
  refine q_is rfl rfl (does_assign (u := (Iv 0)) (ev rfl)) (by dsimp only [List.set]; try rfl) ?_
  refine wpList_nil (hK1 _ _ ?_)
  refine wp_seq_k fun K2 hK2 => ?_
  refine wp_region_lit ?_
  refine q_is rfl rfl (does_move (u := (Iv left)) (ev rfl)) (by dsimp only [List.set]; try rfl) ?_
  refine q_is rfl rfl (does_move (u := (.slice p_a L_a.length q_a)) (ev rfl)) (by dsimp only [List.set]; try rfl) ?_
  refine q_is rfl rfl (does_len_slice Try.underlying22 (ev rfl)) (by dsimp only [List.set]; try rfl) ?_
  refine q_is rfl rfl (does_iarith (p := left) (q := (L_a.length : Int)) (r := left - (L_a.length : Int)) (ev rfl) (ev rfl) (.inr (.inl ⟨rfl, (in_i64 (by omega) (by omega)).symm⟩))) (by dsimp only [List.set]; try rfl) ?_
  refine q_is rfl rfl (does_assign (u := (Iv (left - (L_a.length : Int)))) (ev rfl)) (by dsimp only [List.set]; try rfl) ?_
  refine wpList_nil (hK2 _ _ ?_)
  refine wp_seq_k fun K3 hK3 => ?_
  refine wp_seq_k fun K4 hK4 => ?_
  refine wp_region_lit ?_
  refine q_is rfl rfl (does_move (u := (Iv (left - (L_a.length : Int)))) (ev rfl)) (by dsimp only [List.set]; try rfl) ?_
  refine q_is rfl rfl (does_icmp (p := left - (L_a.length : Int)) (q := 0) (.inr (.inr (.inl rfl))) (ev rfl) (ev rfl)) (by dsimp only [List.set]; try rfl) ?_
  refine wpList_nil (hK4 _ _ ?_)
  refine wp_cond_split (t := icmp .lss (left - (L_a.length : Int)) 0) (ev rfl) (fun c5 => ?_) (fun c5 => ?_)
  · have c5' := c5
    (try simp only [icmp, Bool.and_eq_true, Bool.or_eq_true, Bool.and_eq_false_iff, Bool.or_eq_false_iff, Bool.not_eq_true', Bool.not_eq_false', decide_eq_true_eq, decide_eq_false_iff_not, beq_iff_eq, bne_iff_ne, beq_eq_false_iff_ne, bne_eq_false_iff_eq] at c5')
    refine wp_seq_k fun K6 hK6 => ?_
    refine wp_region_lit ?_
    refine q_is rfl rfl (does_assign (u := (Iv (-1))) (ev rfl)) (by dsimp only [List.set]; try rfl) ?_
    refine wpList_nil (hK6 _ _ ?_)
    refine wp_ret ?_
    dsimp only [Exit.then, Exit.inBlock]
    refine ret_val (v := (Iv (-1))) (res_T rfl (slot rfl)) (Ext.refl w) ?_
    have x7 : (-1) < 0 ∨ ((ndTot L_a : Int) ≤ left ∧ (-1) = left - ndTot L_a ∧ 0 ≤ (-1)) := by first | omega | (have hle : s.1 = L_a.length := (by omega); rw [hle] at hn; right; unfold ndTot; omega)
    exact ⟨(-1), rfl, x7⟩
  have c5' := c5
  (try simp only [icmp, Bool.and_eq_true, Bool.or_eq_true, Bool.and_eq_false_iff, Bool.or_eq_false_iff, Bool.not_eq_true', Bool.not_eq_false', decide_eq_true_eq, decide_eq_false_iff_not, beq_iff_eq, bne_iff_ne, beq_eq_false_iff_ne, bne_eq_false_iff_eq] at c5')
  refine wp_skip (hK3 _ _ ?_)
  refine wp_seq_k fun K8 hK8 => ?_
  refine wp_seq_k fun K9 hK9 => ?_
  refine wp_region_lit ?_
  refine q_is rfl rfl (does_assign (u := (Iv 0)) (ev rfl)) (by dsimp only [List.set]; try rfl) ?_
  refine wpList_nil (hK9 _ _ ?_)
  refine wp_block ?_
  refine loop_ghost (σ := Nat × Int) (fun s a w' => ∃ u10 : Nat → Value, a = fr [(.slice p_a L_a.length q_a), (Iv s.2), Ud, Ud, (u10 4), (Iv (s.1 : Int)), (Iv left), (.slice p_a L_a.length q_a), (Iv (L_a.length : Int)), (Iv (left - (L_a.length : Int))), (Iv (left - (L_a.length : Int))), (Bo (icmp .lss (left - (L_a.length : Int)) 0)), (u10 12), (u10 13), (u10 14), (u10 15), (u10 16), (u10 17), (u10 18), (u10 19), (u10 20), (u10 21), (u10 22), (u10 23), (u10 24), (u10 25), Ud] ∧ Ext w w' ∧ (s.1 ≤ L_a.length ∧ s.2 = left - L_a.length - (ndSum L_a s.1 : Nat) ∧ 0 ≤ s.2)) (fun s => L_a.length - s.1) (0, left - L_a.length) ?_ ?_
  · refine ⟨fun t => (([(.slice p_a L_a.length q_a), (Iv (left - (L_a.length : Int))), Ud, Ud, (Iv 0), (Iv 0), (Iv left), (.slice p_a L_a.length q_a), (Iv (L_a.length : Int)), (Iv (left - (L_a.length : Int))), (Iv (left - (L_a.length : Int))), (Bo (icmp .lss (left - (L_a.length : Int)) 0)), Ud, Ud, Ud, Ud, Ud, Ud, Ud, Ud, Ud, Ud, Ud, Ud, Ud, Ud, Ud] : List Value)[t]?).getD undef, rfl, Ext.refl _, ?_⟩
    exact ⟨Nat.zero_le _, by simp [ndSum], by omega⟩
  · rintro s a w11 ⟨u10, rfl, E12, ⟨hk, hn, h0⟩⟩
    have X14 := Ext.gr (Ext.refl w) E12
    refine wp_seq_k fun K15 hK15 => ?_
    refine wp_seq_k fun K16 hK16 => ?_
    refine wp_region_lit ?_
    refine q_is rfl rfl (does_move (u := (Iv (s.1 : Int))) (ev rfl)) (by dsimp only [List.set]; try rfl) ?_
    refine q_is rfl rfl (does_move (u := (.slice p_a L_a.length q_a)) (ev rfl)) (by dsimp only [List.set]; try rfl) ?_
    refine q_is rfl rfl (does_len_slice Try.underlying22 (ev rfl)) (by dsimp only [List.set]; try rfl) ?_
    refine q_is rfl rfl (does_icmp (p := (s.1 : Int)) (q := (L_a.length : Int)) (.inr (.inr (.inl rfl))) (ev rfl) (ev rfl)) (by dsimp only [List.set]; try rfl) ?_
    refine wpList_nil (hK16 _ _ ?_)
    refine wp_cond_split (t := icmp .lss (s.1 : Int) (L_a.length : Int)) (ev rfl) (fun c17 => ?_) (fun c17 => ?_)
    · have c17' := c17
      (try simp only [icmp, Bool.and_eq_true, Bool.or_eq_true, Bool.and_eq_false_iff, Bool.or_eq_false_iff, Bool.not_eq_true', Bool.not_eq_false', decide_eq_true_eq, decide_eq_false_iff_not, beq_iff_eq, bne_iff_ne, beq_eq_false_iff_ne, bne_eq_false_iff_eq] at c17')
      refine wp_skip (hK15 _ _ ?_)
      refine wp_seq_k fun K18 hK18 => ?_
      refine wp_block ?_
      refine wp_seq_k fun K19 hK19 => ?_
      refine wp_region_lit ?_
      refine q_is rfl rfl (does_move (u := (.slice p_a L_a.length q_a)) (ev rfl)) (by dsimp only [List.set]; try rfl) ?_
      refine q_is rfl rfl (does_move (u := (Iv (s.1 : Int))) (ev rfl)) (by dsimp only [List.set]; try rfl) ?_
      obtain ⟨el1, hel1⟩ : ∃ e, L_a[s.1]? = some e := ⟨_, List.getElem?_eq_getElem (by omega)⟩
      refine seqd rfl rfl (does_indexSl (R := RNodeT) (i := (s.1 : Int)) (xs := L_a) (e := el1) Try.underlying22 Try.sizeOf99 (ev rfl) (ev rfl) (Sl.ext hv_a RNodeT.mono X14) (by omega) hel1) ?_; rintro _ w11 ⟨b20, o21, _, rfl, hc23, ⟨y24, rfl, h25⟩, rfl⟩
      have hs28 := h25; have hs28l := Sl.len h25; obtain ⟨p26, q27, rfl⟩ := Sl.shape h25
      show wpList _ _ _ _ (fr [_, _, _, _, _, _, _, _, _, _, _, _, _, _, _, _, _, _, _, _, _, _, _, _, _, _, _]) _
      refine q_is rfl rfl (does_loadAgg (cs := [(Iv el1.kind), (Iv el1.a), (Iv el1.b), (.slice p26 el1.nums.length q27)]) (ev rfl) Try.isAgg99 Try.sizeOf99 hc23 rfl) (by dsimp only [List.set]; try rfl) ?_
      refine q_is rfl rfl (does_move (u := (Iv s.2)) (ev rfl)) (by dsimp only [List.set]; try rfl) ?_
      refine seqd rfl rfl (does_call (args := #[(.agg #[(Iv el1.kind), (Iv el1.a), (Iv el1.b), (.slice p26 el1.nums.length q27)]), (Iv s.2)]) cal48 (evs rfl) (c_laws_szNode [(Iv el1.kind), (Iv el1.a), (Iv el1.b), (.slice p26 el1.nums.length q27)] el1 s.2 _ ⟨(.slice p26 el1.nums.length q27), rfl, hs28⟩ (by omega) (by omega))) ?_; rintro _ w30 ⟨E29, ⟨i31, rfl, h32⟩⟩
      have X33 := Ext.gr X14 E29
      show wpList _ _ _ _ (fr [_, _, _, _, _, _, _, _, _, _, _, _, _, _, _, _, _, _, _, _, _, _, _, _, _, _, _]) _
      refine q_is rfl rfl (does_assign (u := (Iv i31)) (ev rfl)) (by dsimp only [List.set]; try rfl) ?_
      refine wpList_nil (hK19 _ _ ?_)
      refine wp_seq_k fun K34 hK34 => ?_
      refine wp_region_lit ?_
      refine q_is rfl rfl (does_move (u := (Iv i31)) (ev rfl)) (by dsimp only [List.set]; try rfl) ?_
      refine q_is rfl rfl (does_icmp (p := i31) (q := 0) (.inr (.inr (.inl rfl))) (ev rfl) (ev rfl)) (by dsimp only [List.set]; try rfl) ?_
      refine wpList_nil (hK34 _ _ ?_)
      refine wp_cond_split (t := icmp .lss i31 0) (ev rfl) (fun c35 => ?_) (fun c35 => ?_)
      · have c35' := c35
        (try simp only [icmp, Bool.and_eq_true, Bool.or_eq_true, Bool.and_eq_false_iff, Bool.or_eq_false_iff, Bool.not_eq_true', Bool.not_eq_false', decide_eq_true_eq, decide_eq_false_iff_not, beq_iff_eq, bne_iff_ne, beq_eq_false_iff_ne, bne_eq_false_iff_eq] at c35')
        refine wp_seq_k fun K36 hK36 => ?_
        refine wp_region_lit ?_
        refine q_is rfl rfl (does_assign (u := (Iv (-1))) (ev rfl)) (by dsimp only [List.set]; try rfl) ?_
        refine wpList_nil (hK36 _ _ ?_)
        refine wp_ret ?_
        dsimp only [Exit.then, Exit.inBlock]
        refine ret_val (v := (Iv (-1))) (res_T rfl (slot rfl)) X33 ?_
        try simp only [hel1] at c5 c17 c35
        have x37 : (-1) < 0 ∨ ((ndTot L_a : Int) ≤ left ∧ (-1) = left - ndTot L_a ∧ 0 ≤ (-1)) := by first | omega | (have hle : s.1 = L_a.length := (by omega); rw [hle] at hn; right; unfold ndTot; omega)
        exact ⟨(-1), rfl, x37⟩
      have c35' := c35
      (try simp only [icmp, Bool.and_eq_true, Bool.or_eq_true, Bool.and_eq_false_iff, Bool.or_eq_false_iff, Bool.not_eq_true', Bool.not_eq_false', decide_eq_true_eq, decide_eq_false_iff_not, beq_iff_eq, bne_iff_ne, beq_eq_false_iff_ne, bne_eq_false_iff_eq] at c35')
      refine wp_skip (hK18 _ _ ?_)
      refine wp_region_lit ?_
      refine q_is rfl rfl (does_move (u := (Iv (s.1 : Int))) (ev rfl)) (by dsimp only [List.set]; try rfl) ?_
      refine q_is rfl rfl (does_iarith (p := (s.1 : Int)) (q := 1) (r := (s.1 : Int) + 1) (ev rfl) (ev rfl) (.inl ⟨rfl, (in_i64 (by omega) (by omega)).symm⟩)) (by dsimp only [List.set]; try rfl) ?_
      refine q_is rfl rfl (does_assign (u := (Iv ((s.1 : Int) + 1))) (ev rfl)) (by dsimp only [List.set]; try rfl) ?_
      refine wpList_nil ?_
      refine ⟨(s.1 + 1, i31), ⟨fun t => (([(.slice p_a L_a.length q_a), (Iv i31), Ud, Ud, (u10 4), (Iv ((s.1 : Int) + 1)), (Iv left), (.slice p_a L_a.length q_a), (Iv (L_a.length : Int)), (Iv (left - (L_a.length : Int))), (Iv (left - (L_a.length : Int))), (Bo (icmp .lss (left - (L_a.length : Int)) 0)), (Iv (s.1 : Int)), (.slice p_a L_a.length q_a), (Iv (L_a.length : Int)), (Bo (icmp .lss (s.1 : Int) (L_a.length : Int))), (Iv (s.1 : Int)), (Iv ((s.1 : Int) + 1)), (.slice p_a L_a.length q_a), (Iv (s.1 : Int)), (Pt b20 o21), (.agg #[(Iv el1.kind), (Iv el1.a), (Iv el1.b), (.slice p26 el1.nums.length q27)]), (Iv s.2), (Iv i31), (Iv i31), (Bo (icmp .lss i31 0)), Ud] : List Value)[t]?).getD undef, ?_, (Ext.gr E12 E29), ?_⟩, ?_⟩
      · first | rfl | (simp only [Int.natCast_add, Int.natCast_one]; rfl)
      · (try dsimp only); have hss := ndSum_succ (by assumption : L_a[s.1]? = some _); refine ⟨by omega, ?_, ?_⟩ <;> (try dsimp only) <;> omega
      · (try dsimp only); omega
    have c17' := c17
    (try simp only [icmp, Bool.and_eq_true, Bool.or_eq_true, Bool.and_eq_false_iff, Bool.or_eq_false_iff, Bool.not_eq_true', Bool.not_eq_false', decide_eq_true_eq, decide_eq_false_iff_not, beq_iff_eq, bne_iff_ne, beq_eq_false_iff_ne, bne_eq_false_iff_eq] at c17')
    refine wp_exit ?_
    refine hK8 _ _ ?_
    refine wp_seq_k fun K38 hK38 => ?_
    refine wp_region_lit ?_
    refine q_is rfl rfl (does_move (u := (Iv s.2)) (ev rfl)) (by dsimp only [List.set]; try rfl) ?_
    refine q_is rfl rfl (does_assign (u := (Iv s.2)) (ev rfl)) (by dsimp only [List.set]; try rfl) ?_
    refine wpList_nil (hK38 _ _ ?_)
    refine wp_ret ?_
    refine ret_val (v := (Iv s.2)) (res_T rfl (slot rfl)) X14 ?_
    have x39 : s.2 < 0 ∨ ((ndTot L_a : Int) ≤ left ∧ s.2 = left - ndTot L_a ∧ 0 ≤ s.2) := by first | omega | (have hle : s.1 = L_a.length := (by omega); rw [hle] at hn; right; unfold ndTot; omega)
    exact ⟨s.2, rfl, x39⟩

/- laws.szShape -/
theorem c_laws_szShape (a : List Value) (A_a : ShapeT) (left : Int) (w : World) (hv_a : RShapeT w A_a a) (hle : left ≤ 1048576) (hge : 0 ≤ left) : Gives Try.prog 6 #[(.agg a.toArray), (Iv left)] w (fun v w' => ∃ i_1 : Int, v = (Iv i_1) ∧ (i_1 < 0 ∨ ((ndTot A_a.nodes : Int) ≤ left ∧ i_1 = left - ndTot A_a.nodes ∧ 0 ≤ i_1))) := by
  obtain ⟨y1, rfl, h2⟩ := hv_a
  have hs5 := h2; have hs5l := Sl.len h2; obtain ⟨p3, q4, rfl⟩ := Sl.shape h2
  refine enter [(.agg #[(.slice p3 A_a.nodes.length q4)]), (Iv left), Ud, Ud, Ud, Ud, Ud, Ud, Ud, Ud, Ud, Ud] Try.func6 rfl Try.ntmps6 rfl ?_
  refine wp_seq_k fun K6 hK6 => ?_
  refine wp_region_lit ?_
  refine seqd rfl rfl (does_box (u := (.agg #[(.slice p3 A_a.nodes.length q4)])) (ev rfl)) ?_; rintro _ w11 ⟨b7, rfl, hb8, hB9, E10⟩
  have g12 : w.heap.size ≤ b7 := Nat.le_trans (Below.size (Ext.refl w)) hb8
  change Blk _ _ [(.slice p3 A_a.nodes.length q4)] at hB9
  have X13 := Ext.gr (Ext.refl w) E10
  show wpList _ _ _ _ (fr [(.agg #[(.slice p3 A_a.nodes.length q4)]), (Iv left), (Pt b7 0), Ud, Ud, Ud, Ud, Ud, Ud, Ud, Ud, Ud]) _
  refine q_is (l' := [(.agg #[(.slice p3 A_a.nodes.length q4)]), (Iv left), (Pt b7 0), Ud, (Iv 0), Ud, Ud, Ud, Ud, Ud, Ud, Ud]) rfl rfl (does_assign (u := (Iv 0)) (ev rfl)) rfl ?_
  refine wpList_nil (hK6 _ _ ?_)
  refine wp_seq_k fun K14 hK14 => ?_
  refine wp_region_lit ?_
  refine q_is (l' := [(.agg #[(.slice p3 A_a.nodes.length q4)]), (Iv left), (Pt b7 0), Ud, (Iv 0), (Pt b7 0), Ud, Ud, Ud, Ud, Ud, Ud]) rfl rfl (does_fieldAddr (ev rfl) fa24_0) rfl ?_
  refine q_is (l' := [(.agg #[(.slice p3 A_a.nodes.length q4)]), (Iv left), (Pt b7 0), Ud, (Iv 0), (Pt b7 0), (.slice p3 A_a.nodes.length q4), Ud, Ud, Ud, Ud, Ud]) rfl rfl (does_load (u := (.slice p3 A_a.nodes.length q4)) (ev rfl) Try.isAgg22 (Cells.at (Blk.cells hB9) 0 rfl)) rfl ?_
  refine q_is (l' := [(.agg #[(.slice p3 A_a.nodes.length q4)]), (Iv left), (Pt b7 0), Ud, (Iv 0), (Pt b7 0), (.slice p3 A_a.nodes.length q4), (Iv left), Ud, Ud, Ud, Ud]) rfl rfl (does_move (u := (Iv left)) (ev rfl)) rfl ?_
  refine seqd rfl rfl (does_call (args := #[(.slice p3 A_a.nodes.length q4), (Iv left)]) cal22 (evs rfl) (c_laws_szNodeS (.slice p3 A_a.nodes.length q4) A_a.nodes left _ (Sl.ext hs5 RNodeT.mono X13) (by omega) (by omega))) ?_; rintro _ w16 ⟨E15, ⟨i17, rfl, h18⟩⟩
  have X19 := Ext.gr X13 E15
  show wpList _ _ _ _ (fr [(.agg #[(.slice p3 A_a.nodes.length q4)]), (Iv left), (Pt b7 0), Ud, (Iv 0), (Pt b7 0), (.slice p3 A_a.nodes.length q4), (Iv left), (Iv i17), Ud, Ud, Ud]) _
  refine q_is (l' := [(.agg #[(.slice p3 A_a.nodes.length q4)]), (Iv i17), (Pt b7 0), Ud, (Iv 0), (Pt b7 0), (.slice p3 A_a.nodes.length q4), (Iv left), (Iv i17), Ud, Ud, Ud]) rfl rfl (does_assign (u := (Iv i17)) (ev rfl)) rfl ?_
  refine wpList_nil (hK14 _ _ ?_)
  refine wp_seq_k fun K20 hK20 => ?_
  refine wp_seq_k fun K21 hK21 => ?_
  refine wp_region_lit ?_
  refine q_is (l' := [(.agg #[(.slice p3 A_a.nodes.length q4)]), (Iv i17), (Pt b7 0), Ud, (Iv 0), (Pt b7 0), (.slice p3 A_a.nodes.length q4), (Iv left), (Iv i17), (Iv i17), Ud, Ud]) rfl rfl (does_move (u := (Iv i17)) (ev rfl)) rfl ?_
  refine q_is (l' := [(.agg #[(.slice p3 A_a.nodes.length q4)]), (Iv i17), (Pt b7 0), Ud, (Iv 0), (Pt b7 0), (.slice p3 A_a.nodes.length q4), (Iv left), (Iv i17), (Iv i17), (Bo (icmp .lss i17 0)), Ud]) rfl rfl (does_icmp (p := i17) (q := 0) (.inr (.inr (.inl rfl))) (ev rfl) (ev rfl)) rfl ?_
  refine wpList_nil (hK21 _ _ ?_)
  refine wp_cond_split (t := icmp .lss i17 0) (ev rfl) (fun c22 => ?_) (fun c22 => ?_)
  · have c22' := c22
    (try simp only [icmp, Bool.and_eq_true, Bool.or_eq_true, Bool.and_eq_false_iff, Bool.or_eq_false_iff, Bool.not_eq_true', Bool.not_eq_false', decide_eq_true_eq, decide_eq_false_iff_not, beq_iff_eq, bne_iff_ne, beq_eq_false_iff_ne, bne_eq_false_iff_eq] at c22')
    refine wp_seq_k fun K23 hK23 => ?_
    refine wp_region_lit ?_
    refine q_is (l' := [(.agg #[(.slice p3 A_a.nodes.length q4)]), (Iv i17), (Pt b7 0), Ud, (Iv (-1)), (Pt b7 0), (.slice p3 A_a.nodes.length q4), (Iv left), (Iv i17), (Iv i17), (Bo (icmp .lss i17 0)), Ud]) rfl rfl (does_assign (u := (Iv (-1))) (ev rfl)) rfl ?_
    refine wpList_nil (hK23 _ _ ?_)
    refine wp_ret ?_
    dsimp only [Exit.then, Exit.inBlock]
    refine ret_val (v := (Iv (-1))) (res_T rfl (slot rfl)) X19 ?_
    have x24 : (-1) < 0 ∨ ((ndTot A_a.nodes : Int) ≤ left ∧ (-1) = left - ndTot A_a.nodes ∧ 0 ≤ (-1)) := by omega
    exact ⟨(-1), rfl, x24⟩
  have c22' := c22
  (try simp only [icmp, Bool.and_eq_true, Bool.or_eq_true, Bool.and_eq_false_iff, Bool.or_eq_false_iff, Bool.not_eq_true', Bool.not_eq_false', decide_eq_true_eq, decide_eq_false_iff_not, beq_iff_eq, bne_iff_ne, beq_eq_false_iff_ne, bne_eq_false_iff_eq] at c22')
  refine wp_skip (hK20 _ _ ?_)
  refine wp_seq_k fun K25 hK25 => ?_
  refine wp_region_lit ?_
  refine q_is (l' := [(.agg #[(.slice p3 A_a.nodes.length q4)]), (Iv i17), (Pt b7 0), Ud, (Iv 0), (Pt b7 0), (.slice p3 A_a.nodes.length q4), (Iv left), (Iv i17), (Iv i17), (Bo (icmp .lss i17 0)), (Iv i17)]) rfl rfl (does_move (u := (Iv i17)) (ev rfl)) rfl ?_
  refine q_is (l' := [(.agg #[(.slice p3 A_a.nodes.length q4)]), (Iv i17), (Pt b7 0), Ud, (Iv i17), (Pt b7 0), (.slice p3 A_a.nodes.length q4), (Iv left), (Iv i17), (Iv i17), (Bo (icmp .lss i17 0)), (Iv i17)]) rfl rfl (does_assign (u := (Iv i17)) (ev rfl)) rfl ?_
  refine wpList_nil (hK25 _ _ ?_)
  refine wp_ret ?_
  refine ret_val (v := (Iv i17)) (res_T rfl (slot rfl)) X19 ?_
  have x26 : i17 < 0 ∨ ((ndTot A_a.nodes : Int) ≤ left ∧ i17 = left - ndTot A_a.nodes ∧ 0 ≤ i17) := by omega
  exact ⟨i17, rfl, x26⟩

/- spec.l00In -/
theorem c_spec_l00In (n : Int) (low : Int) (high : Int) (w : World) : Gives Try.prog 66 #[(Iv n), (Iv low), (Iv high)] w (fun v w' => v = (Bo (inI n low high))) := by
  refine enter [(Iv n), (Iv low), (Iv high), Ud, Ud, Ud, Ud, Ud, Ud, Ud, Ud, Ud, Ud, Ud, Ud] Try.func66 rfl Try.ntmps66 rfl ?_
  refine wp_seq_k fun K1 hK1 => ?_
  refine wp_region_lit ?_
  refine q_is (l' := [(Iv n), (Iv low), (Iv high), Ud, Ud, Ud, (Bo false), Ud, Ud, Ud, Ud, Ud, Ud, Ud, Ud]) rfl rfl (does_assign (u := (Bo false)) (ev rfl)) rfl ?_
  refine wpList_nil (hK1 _ _ ?_)
  refine wp_seq_k fun K2 hK2 => ?_
  obtain ⟨β1, hβ1⟩ : ∃ b : Bool, b = ((icmp .geq n low) && (icmp .leq n high)) := ⟨_, rfl⟩
  refine region_text (
    [Fact.pure [] (fun v => v = (Iv n)),
    Fact.pure [] (fun v => v = (Iv low)),
    Fact.pure [7, 8] (fun v => v = (Bo (icmp .geq n low))),
    Fact.pure [9] (fun v => v = (Bo (icmp .geq n low))),
    Fact.pure [10] (fun v => (icmp .geq n low) = true → v = (Iv n)),
    Fact.pure [10] (fun v => (icmp .geq n low) = true → v = (Iv high)),
    Fact.pure [11, 12, 10] (fun v => (icmp .geq n low) = true → v = (Bo (icmp .leq n high))),
    Fact.pure [10, 13] (fun v => v = (Bo β1))]) (by simp [Fact.pure, Fact.mem]) ?_
  refine RW_d (fun v3 => [(Iv n), (Iv low), (Iv high), Ud, Ud, Ud, (Bo false), v3, Ud, Ud, Ud, Ud, Ud, Ud, Ud]) rfl (fun _ => rfl) (fun u hu hF => ?_) (fun v3 => ?_)
  · clear hF
    refine doesG_un rfl ?_
    refine (does_move (u := (Iv n)) (ev rfl)).mono ?_; rintro _ _ ⟨rfl, rfl⟩
    exact ⟨rfl, Ext.refl _⟩
  refine RW_d (fun v4 => [(Iv n), (Iv low), (Iv high), Ud, Ud, Ud, (Bo false), v3, v4, Ud, Ud, Ud, Ud, Ud, Ud]) rfl (fun _ => rfl) (fun u hu hF => ?_) (fun v4 => ?_)
  · clear hF
    refine doesG_un rfl ?_
    refine (does_move (u := (Iv low)) (ev rfl)).mono ?_; rintro _ _ ⟨rfl, rfl⟩
    exact ⟨rfl, Ext.refl _⟩
  refine RW_d (fun v5 => [(Iv n), (Iv low), (Iv high), Ud, Ud, Ud, (Bo false), v3, v4, v5, Ud, Ud, Ud, Ud, Ud]) rfl (fun _ => rfl) (fun u hu hF => ?_) (fun v5 => ?_)
  · have h7_ : v3 = (Iv n) := hF.1
    have h8_ : v4 = (Iv low) := hF.2.1
    clear hF
    refine doesG_un rfl ?_
    obtain rfl := h7_
    obtain rfl := h8_
    refine (does_icmp (p := n) (q := low) (.inr (.inr (.inr (.inr (.inr rfl))))) (ev rfl) (ev rfl)).mono ?_; rintro _ _ ⟨rfl, rfl⟩
    exact ⟨rfl, Ext.refl _⟩
  refine RW_d (fun v6 => [(Iv n), (Iv low), (Iv high), Ud, Ud, Ud, (Bo false), v3, v4, v5, v6, Ud, Ud, Ud, Ud]) rfl (fun _ => rfl) (fun u hu hF => ?_) (fun v6 => ?_)
  · have h9_ : v5 = (Bo (icmp .geq n low)) := hF.1
    clear hF
    refine doesG_un rfl ?_
    obtain rfl := h9_
    refine (does_move (u := (Bo (icmp .geq n low))) (ev rfl)).mono ?_; rintro _ _ ⟨rfl, rfl⟩
    exact ⟨rfl, Ext.refl _⟩
  refine RW_d (fun v7 => [(Iv n), (Iv low), (Iv high), Ud, Ud, Ud, (Bo false), v3, v4, v5, v6, v7, Ud, Ud, Ud]) rfl (fun _ => rfl) (fun u hu hF => ?_) (fun v7 => ?_)
  · have h10_ : v6 = (Bo (icmp .geq n low)) := hF.1
    clear hF
    obtain rfl := h10_
    refine doesG_g (b := (icmp .geq n low)) rfl (yld rfl rfl) (fun hg1 => ?_) (fun hc => ⟨fun hg1 => absurd hg1 hc, Ext.refl _⟩)
    refine (does_move (u := (Iv n)) (ev rfl)).mono ?_; rintro _ _ ⟨rfl, rfl⟩
    exact ⟨fun _ => rfl, Ext.refl _⟩
  refine RW_d (fun v8 => [(Iv n), (Iv low), (Iv high), Ud, Ud, Ud, (Bo false), v3, v4, v5, v6, v7, v8, Ud, Ud]) rfl (fun _ => rfl) (fun u hu hF => ?_) (fun v8 => ?_)
  · have h10_ : v6 = (Bo (icmp .geq n low)) := hF.1
    clear hF
    obtain rfl := h10_
    refine doesG_g (b := (icmp .geq n low)) rfl (yld rfl rfl) (fun hg1 => ?_) (fun hc => ⟨fun hg1 => absurd hg1 hc, Ext.refl _⟩)
    refine (does_move (u := (Iv high)) (ev rfl)).mono ?_; rintro _ _ ⟨rfl, rfl⟩
    exact ⟨fun _ => rfl, Ext.refl _⟩
  refine RW_d (fun v9 => [(Iv n), (Iv low), (Iv high), Ud, Ud, Ud, (Bo false), v3, v4, v5, v6, v7, v8, v9, Ud]) rfl (fun _ => rfl) (fun u hu hF => ?_) (fun v9 => ?_)
  · have h11_ : (icmp .geq n low) = true → v7 = (Iv n) := hF.1
    have h12_ : (icmp .geq n low) = true → v8 = (Iv high) := hF.2.1
    have h10_ : v6 = (Bo (icmp .geq n low)) := hF.2.2.1
    clear hF
    obtain rfl := h10_
    refine doesG_g (b := (icmp .geq n low)) rfl (yld rfl rfl) (fun hg1 => ?_) (fun hc => ⟨fun hg1 => absurd hg1 hc, Ext.refl _⟩)
    obtain rfl := h11_ hg1
    obtain rfl := h12_ hg1
    refine (does_icmp (p := n) (q := high) (.inr (.inr (.inr (.inl rfl)))) (ev rfl) (ev rfl)).mono ?_; rintro _ _ ⟨rfl, rfl⟩
    exact ⟨fun _ => rfl, Ext.refl _⟩
  refine RW_d (fun v10 => [(Iv n), (Iv low), (Iv high), Ud, Ud, Ud, (Bo false), v3, v4, v5, v6, v7, v8, v9, v10]) rfl (fun _ => rfl) (fun u hu hF => ?_) (fun v10 => ?_)
  · have h10_ : v6 = (Bo (icmp .geq n low)) := hF.1
    have h13_ : (icmp .geq n low) = true → v9 = (Bo (icmp .leq n high)) := hF.2.1
    clear hF
    refine doesG_un rfl ?_
    skip
    obtain rfl := h10_
    refine (does_pick (b := (icmp .geq n low)) (u := v9) (v := (Bo false)) (ev rfl) (ev rfl) (ev rfl)).mono ?_; rintro _ _ ⟨rfl, rfl⟩; refine ⟨?_, Ext.refl _⟩; rw [hβ1]; skip
    cases hbb : (icmp .geq n low)
    all_goals first | (show _ = _; simp only [↓reduceIte, Bool.true_and, Bool.false_and, Bool.true_or, Bool.false_or, Bool.false_eq_true]; done) | (have e_ := h13_ hbb; subst e_; show _ = _; simp only [↓reduceIte, Bool.true_and, Bool.false_and, Bool.true_or, Bool.false_or, Bool.false_eq_true]; done) | rfl | (have e_ := h13_ hbb; subst e_; rfl) | (simp [hbb] at h13_ ⊢; first | done | rfl | (subst h13_; rfl) | simp_all) | (simp [hbb] at h13_ ⊢; done)
  refine RW_fin ?_; intro w11 E12 hP13
  obtain ⟨⟨⟨⟨⟨⟨⟨⟨-, -⟩, -⟩, -⟩, -⟩, -⟩, -⟩, -⟩, q14⟩ := hP13
  have X15 := Ext.gr (Ext.refl w) E12
  have q14 : v10 = (Bo β1) := q14
  obtain rfl := q14
  show wpList _ _ _ _ (fr [(Iv n), (Iv low), (Iv high), Ud, Ud, Ud, (Bo false), v3, v4, v5, v6, v7, v8, v9, (Bo β1)]) _
  refine q_is (l' := [(Iv n), (Iv low), (Iv high), Ud, Ud, Ud, (Bo β1), v3, v4, v5, v6, v7, v8, v9, (Bo β1)]) rfl rfl (does_assign (u := (Bo β1)) (ev rfl)) rfl ?_
  refine wpList_nil (hK2 _ _ ?_)
  refine wp_ret ?_
  refine ret_val (v := (Bo β1)) (res_T rfl (slot rfl)) X15 ?_
  have x16 : (inI n low high) = β1 := by first | with_reducible rfl | (simp only [inI, hβ1]; done) | (simp [inI, hβ1]; done) | rfl
  exact (by first | with_reducible rfl | rw [x16] | rfl)

/- spec.l02Leaf -/
theorem c_spec_l02Leaf (kind : Int) (w : World) : Gives Try.prog 50 #[(Iv kind)] w (fun v w' => v = (Bo (inI kind 0 4))) := by
  refine enter [(Iv kind), Ud, Ud, Ud, Ud] Try.func50 rfl Try.ntmps50 rfl ?_
  refine wp_seq_k fun K1 hK1 => ?_
  refine wp_region_lit ?_
  refine q_is (l' := [(Iv kind), Ud, (Bo false), Ud, Ud]) rfl rfl (does_assign (u := (Bo false)) (ev rfl)) rfl ?_
  refine wpList_nil (hK1 _ _ ?_)
  refine wp_seq_k fun K2 hK2 => ?_
  refine wp_region_lit ?_
  refine q_is (l' := [(Iv kind), Ud, (Bo false), (Iv kind), Ud]) rfl rfl (does_move (u := (Iv kind)) (ev rfl)) rfl ?_
  refine seqd rfl rfl (does_call (args := #[(Iv kind), (Iv 0), (Iv 4)]) cal66 (evs rfl) (c_spec_l00In kind 0 4 _)) ?_; rintro _ w4 ⟨E3, rfl⟩
  have X5 := Ext.gr (Ext.refl w) E3
  show wpList _ _ _ _ (fr [(Iv kind), Ud, (Bo false), (Iv kind), (Bo (inI kind 0 4))]) _
  refine q_is (l' := [(Iv kind), Ud, (Bo (inI kind 0 4)), (Iv kind), (Bo (inI kind 0 4))]) rfl rfl (does_assign (u := (Bo (inI kind 0 4))) (ev rfl)) rfl ?_
  refine wpList_nil (hK2 _ _ ?_)
  refine wp_ret ?_
  refine ret_val (v := (Bo (inI kind 0 4))) (res_T rfl (slot rfl)) X5 ?_
  exact rfl

/- spec.l02Two -/
theorem c_spec_l02Two (kind : Int) (w : World) : Gives Try.prog 51 #[(Iv kind)] w (fun v w' => v = (Bo (inI kind 5 8))) := by
  refine enter [(Iv kind), Ud, Ud, Ud, Ud] Try.func51 rfl Try.ntmps51 rfl ?_
  refine wp_seq_k fun K1 hK1 => ?_
  refine wp_region_lit ?_
  refine q_is (l' := [(Iv kind), Ud, (Bo false), Ud, Ud]) rfl rfl (does_assign (u := (Bo false)) (ev rfl)) rfl ?_
  refine wpList_nil (hK1 _ _ ?_)
  refine wp_seq_k fun K2 hK2 => ?_
  refine wp_region_lit ?_
  refine q_is (l' := [(Iv kind), Ud, (Bo false), (Iv kind), Ud]) rfl rfl (does_move (u := (Iv kind)) (ev rfl)) rfl ?_
  refine seqd rfl rfl (does_call (args := #[(Iv kind), (Iv 5), (Iv 8)]) cal66 (evs rfl) (c_spec_l00In kind 5 8 _)) ?_; rintro _ w4 ⟨E3, rfl⟩
  have X5 := Ext.gr (Ext.refl w) E3
  show wpList _ _ _ _ (fr [(Iv kind), Ud, (Bo false), (Iv kind), (Bo (inI kind 5 8))]) _
  refine q_is (l' := [(Iv kind), Ud, (Bo (inI kind 5 8)), (Iv kind), (Bo (inI kind 5 8))]) rfl rfl (does_assign (u := (Bo (inI kind 5 8))) (ev rfl)) rfl ?_
  refine wpList_nil (hK2 _ _ ?_)
  refine wp_ret ?_
  refine ret_val (v := (Bo (inI kind 5 8))) (res_T rfl (slot rfl)) X5 ?_
  exact rfl

/- spec.l01Finite -/
theorem c_spec_l01Finite (x : Nat) (w : World) : Gives Try.prog 96 #[(Fl x)] w (fun v w' => v = (Bo (finF (cf .f32 x)))) := by
  refine enter [(Fl x), Ud, Ud, Ud, Ud, Ud, Ud] Try.func96 rfl Try.ntmps96 rfl ?_
  refine wp_seq_k fun K1 hK1 => ?_
  refine wp_region_lit ?_
  refine q_is (l' := [(Fl x), Ud, (Bo false), Ud, Ud, Ud, Ud]) rfl rfl (does_assign (u := (Bo false)) (ev rfl)) rfl ?_
  refine wpList_nil (hK1 _ _ ?_)
  refine wp_seq_k fun K2 hK2 => ?_
  refine wp_region_lit ?_
  refine q_is (l' := [(Fl x), Ud, (Bo false), (Fl x), Ud, Ud, Ud]) rfl rfl (does_move (u := (Fl x)) (ev rfl)) rfl ?_
  refine q_is (l' := [(Fl x), Ud, (Bo false), (Fl x), (Fl x), Ud, Ud]) rfl rfl (does_move (u := (Fl x)) (ev rfl)) rfl ?_
  refine seqd rfl rfl (does_float (.inr (.inl rfl)) (ev rfl) (ev rfl)) ?_; rintro _ w6 ⟨r3, rfl, h4, E5⟩
  have X7 := Ext.gr (Ext.refl w) E5
  show wpList _ _ _ _ (fr [(Fl x), Ud, (Bo false), (Fl x), (Fl x), (Fl r3), Ud]) _
  refine q_is (l' := [(Fl x), Ud, (Bo false), (Fl x), (Fl x), (Fl r3), (Bo (fcmp .eql (ford .f32 (cf .f32 r3) (cf .f32 0))))]) rfl rfl (does_fcmp (.inl rfl) (ev rfl) (ev rfl)) rfl ?_
  refine q_is (l' := [(Fl x), Ud, (Bo (fcmp .eql (ford .f32 (cf .f32 r3) (cf .f32 0)))), (Fl x), (Fl x), (Fl r3), (Bo (fcmp .eql (ford .f32 (cf .f32 r3) (cf .f32 0))))]) rfl rfl (does_assign (u := (Bo (fcmp .eql (ford .f32 (cf .f32 r3) (cf .f32 0))))) (ev rfl)) rfl ?_
  refine wpList_nil (hK2 _ _ ?_)
  refine wp_ret ?_
  refine ret_val (v := (Bo (fcmp .eql (ford .f32 (cf .f32 r3) (cf .f32 0))))) (res_T rfl (slot rfl)) X7 ?_
  have x8 : (finF (cf .f32 x)) = (fcmp .eql (ford .f32 (cf .f32 r3) (cf .f32 0))) := by first | with_reducible rfl | (simp only [finF, h4]; done) | (simp [finF, h4]; done) | rfl
  exact (by first | with_reducible rfl | rw [x8] | rfl)

/- spec.l02Count -/
theorem c_spec_l02Count (kind : Int) (w : World) : Gives Try.prog 101 #[(Iv kind)] w (fun v w' => v = (Iv (rlNum kind))) := by
  refine enter [(Iv kind), Ud, Ud, Ud, Ud, Ud, Ud, Ud, Ud, Ud, Ud, Ud, Ud, Ud, Ud, Ud, Ud, Ud, Ud, Ud, Ud] Try.func101 rfl Try.ntmps101 rfl ?_
  refine wp_seq_k fun K1 hK1 => ?_
  refine wp_region_lit ?_
  refine q_is (l' := [(Iv kind), Ud, (Iv 0), Ud, Ud, Ud, Ud, Ud, Ud, Ud, Ud, Ud, Ud, Ud, Ud, Ud, Ud, Ud, Ud, Ud, Ud]) rfl rfl (does_assign (u := (Iv 0)) (ev rfl)) rfl ?_
  refine wpList_nil (hK1 _ _ ?_)
  refine wp_seq_k fun K2 hK2 => ?_
  refine wp_seq_k fun K3 hK3 => ?_
  refine wp_region_lit ?_
  refine q_is (l' := [(Iv kind), Ud, (Iv 0), (Iv kind), Ud, Ud, Ud, Ud, Ud, Ud, Ud, Ud, Ud, Ud, Ud, Ud, Ud, Ud, Ud, Ud, Ud]) rfl rfl (does_move (u := (Iv kind)) (ev rfl)) rfl ?_
  refine wpList_nil (hK3 _ _ ?_)
  refine wp_block ?_
  refine wp_seq_k fun K4 hK4 => ?_
  refine wp_seq_k fun K5 hK5 => ?_
  refine wp_region_lit ?_
  refine q_is (l' := [(Iv kind), Ud, (Iv 0), (Iv kind), Ud, (Bo (icmp .eql kind 0)), Ud, Ud, Ud, Ud, Ud, Ud, Ud, Ud, Ud, Ud, Ud, Ud, Ud, Ud, Ud]) rfl rfl (does_icmp (p := kind) (q := 0) (.inl rfl) (ev rfl) (ev rfl)) rfl ?_
  refine q_is (l' := [(Iv kind), Ud, (Iv 0), (Iv kind), (Bo (icmp .eql kind 0)), (Bo (icmp .eql kind 0)), Ud, Ud, Ud, Ud, Ud, Ud, Ud, Ud, Ud, Ud, Ud, Ud, Ud, Ud, Ud]) rfl rfl (does_assign (u := (Bo (icmp .eql kind 0))) (ev rfl)) rfl ?_
  refine wpList_nil (hK5 _ _ ?_)
  refine wp_cond_split (t := icmp .eql kind 0) (ev rfl) (fun c6 => ?_) (fun c6 => ?_)
  · have c6' := c6
    (try simp only [icmp, Bool.and_eq_true, Bool.or_eq_true, Bool.and_eq_false_iff, Bool.or_eq_false_iff, Bool.not_eq_true', Bool.not_eq_false', decide_eq_true_eq, decide_eq_false_iff_not, beq_iff_eq, bne_iff_ne, beq_eq_false_iff_ne, bne_eq_false_iff_eq] at c6')
    refine wp_skip (hK4 _ _ ?_)
    refine wp_cond_true ((ev (rfl : evl _ _ = .bool (icmp .eql kind 0))).trans (congrArg Value.bool c6)) ?_
    refine wp_seq_k fun K7 hK7 => ?_
    refine wp_region_lit ?_
    refine q_is (l' := [(Iv kind), Ud, (Iv 1), (Iv kind), (Bo (icmp .eql kind 0)), (Bo (icmp .eql kind 0)), Ud, Ud, Ud, Ud, Ud, Ud, Ud, Ud, Ud, Ud, Ud, Ud, Ud, Ud, Ud]) rfl rfl (does_assign (u := (Iv 1)) (ev rfl)) rfl ?_
    refine wpList_nil (hK7 _ _ ?_)
    refine wp_ret ?_
    dsimp only [Exit.then, Exit.inBlock]
    refine ret_val (v := (Iv 1)) (res_T rfl (slot rfl)) (Ext.refl w) ?_
    have x8 : (rlNum kind : Int) = 1 := by first | (simp_all [rlNum, icmp]; done) | (simp [rlNum]; omega)
    exact (by first | with_reducible rfl | rw [x8] | rfl)
  have c6' := c6
  (try simp only [icmp, Bool.and_eq_true, Bool.or_eq_true, Bool.and_eq_false_iff, Bool.or_eq_false_iff, Bool.not_eq_true', Bool.not_eq_false', decide_eq_true_eq, decide_eq_false_iff_not, beq_iff_eq, bne_iff_ne, beq_eq_false_iff_ne, bne_eq_false_iff_eq] at c6')
  refine wp_seq_k fun K9 hK9 => ?_
  refine wp_region_lit ?_
  refine q_is (l' := [(Iv kind), Ud, (Iv 0), (Iv kind), (Bo (icmp .eql kind 0)), (Bo (icmp .eql kind 0)), (Bo (icmp .eql kind 8)), Ud, Ud, Ud, Ud, Ud, Ud, Ud, Ud, Ud, Ud, Ud, Ud, Ud, Ud]) rfl rfl (does_icmp (p := kind) (q := 8) (.inl rfl) (ev rfl) (ev rfl)) rfl ?_
  refine q_is (l' := [(Iv kind), Ud, (Iv 0), (Iv kind), (Bo (icmp .eql kind 8)), (Bo (icmp .eql kind 0)), (Bo (icmp .eql kind 8)), Ud, Ud, Ud, Ud, Ud, Ud, Ud, Ud, Ud, Ud, Ud, Ud, Ud, Ud]) rfl rfl (does_assign (u := (Bo (icmp .eql kind 8))) (ev rfl)) rfl ?_
  refine wpList_nil (hK9 _ _ ?_)
  refine wp_cond_split (t := icmp .eql kind 8) (ev rfl) (fun c10 => ?_) (fun c10 => ?_)
  · have c10' := c10
    (try simp only [icmp, Bool.and_eq_true, Bool.or_eq_true, Bool.and_eq_false_iff, Bool.or_eq_false_iff, Bool.not_eq_true', Bool.not_eq_false', decide_eq_true_eq, decide_eq_false_iff_not, beq_iff_eq, bne_iff_ne, beq_eq_false_iff_ne, bne_eq_false_iff_eq] at c10')
    refine wp_skip (hK4 _ _ ?_)
    refine wp_cond_true ((ev (rfl : evl _ _ = .bool (icmp .eql kind 8))).trans (congrArg Value.bool c10)) ?_
    refine wp_seq_k fun K11 hK11 => ?_
    refine wp_region_lit ?_
    refine q_is (l' := [(Iv kind), Ud, (Iv 1), (Iv kind), (Bo (icmp .eql kind 8)), (Bo (icmp .eql kind 0)), (Bo (icmp .eql kind 8)), Ud, Ud, Ud, Ud, Ud, Ud, Ud, Ud, Ud, Ud, Ud, Ud, Ud, Ud]) rfl rfl (does_assign (u := (Iv 1)) (ev rfl)) rfl ?_
    refine wpList_nil (hK11 _ _ ?_)
    refine wp_ret ?_
    dsimp only [Exit.then, Exit.inBlock]
    refine ret_val (v := (Iv 1)) (res_T rfl (slot rfl)) (Ext.refl w) ?_
    have x12 : (rlNum kind : Int) = 1 := by first | (simp_all [rlNum, icmp]; done) | (simp [rlNum]; omega)
    exact (by first | with_reducible rfl | rw [x12] | rfl)
  have c10' := c10
  (try simp only [icmp, Bool.and_eq_true, Bool.or_eq_true, Bool.and_eq_false_iff, Bool.or_eq_false_iff, Bool.not_eq_true', Bool.not_eq_false', decide_eq_true_eq, decide_eq_false_iff_not, beq_iff_eq, bne_iff_ne, beq_eq_false_iff_ne, bne_eq_false_iff_eq] at c10')
  refine wp_seq_k fun K13 hK13 => ?_
  refine wp_region_lit ?_
  refine q_is (l' := [(Iv kind), Ud, (Iv 0), (Iv kind), (Bo (icmp .eql kind 8)), (Bo (icmp .eql kind 0)), (Bo (icmp .eql kind 8)), (Bo (icmp .eql kind 10)), Ud, Ud, Ud, Ud, Ud, Ud, Ud, Ud, Ud, Ud, Ud, Ud, Ud]) rfl rfl (does_icmp (p := kind) (q := 10) (.inl rfl) (ev rfl) (ev rfl)) rfl ?_
  refine q_is (l' := [(Iv kind), Ud, (Iv 0), (Iv kind), (Bo (icmp .eql kind 10)), (Bo (icmp .eql kind 0)), (Bo (icmp .eql kind 8)), (Bo (icmp .eql kind 10)), Ud, Ud, Ud, Ud, Ud, Ud, Ud, Ud, Ud, Ud, Ud, Ud, Ud]) rfl rfl (does_assign (u := (Bo (icmp .eql kind 10))) (ev rfl)) rfl ?_
  refine wpList_nil (hK13 _ _ ?_)
  refine wp_cond_split (t := icmp .eql kind 10) (ev rfl) (fun c14 => ?_) (fun c14 => ?_)
  · have c14' := c14
    (try simp only [icmp, Bool.and_eq_true, Bool.or_eq_true, Bool.and_eq_false_iff, Bool.or_eq_false_iff, Bool.not_eq_true', Bool.not_eq_false', decide_eq_true_eq, decide_eq_false_iff_not, beq_iff_eq, bne_iff_ne, beq_eq_false_iff_ne, bne_eq_false_iff_eq] at c14')
    refine wp_skip (hK4 _ _ ?_)
    refine wp_cond_true ((ev (rfl : evl _ _ = .bool (icmp .eql kind 10))).trans (congrArg Value.bool c14)) ?_
    refine wp_seq_k fun K15 hK15 => ?_
    refine wp_region_lit ?_
    refine q_is (l' := [(Iv kind), Ud, (Iv 1), (Iv kind), (Bo (icmp .eql kind 10)), (Bo (icmp .eql kind 0)), (Bo (icmp .eql kind 8)), (Bo (icmp .eql kind 10)), Ud, Ud, Ud, Ud, Ud, Ud, Ud, Ud, Ud, Ud, Ud, Ud, Ud]) rfl rfl (does_assign (u := (Iv 1)) (ev rfl)) rfl ?_
    refine wpList_nil (hK15 _ _ ?_)
    refine wp_ret ?_
    dsimp only [Exit.then, Exit.inBlock]
    refine ret_val (v := (Iv 1)) (res_T rfl (slot rfl)) (Ext.refl w) ?_
    have x16 : (rlNum kind : Int) = 1 := by first | (simp_all [rlNum, icmp]; done) | (simp [rlNum]; omega)
    exact (by first | with_reducible rfl | rw [x16] | rfl)
  have c14' := c14
  (try simp only [icmp, Bool.and_eq_true, Bool.or_eq_true, Bool.and_eq_false_iff, Bool.or_eq_false_iff, Bool.not_eq_true', Bool.not_eq_false', decide_eq_true_eq, decide_eq_false_iff_not, beq_iff_eq, bne_iff_ne, beq_eq_false_iff_ne, bne_eq_false_iff_eq] at c14')
  refine wp_seq_k fun K17 hK17 => ?_
  refine wp_region_lit ?_
  refine q_is (l' := [(Iv kind), Ud, (Iv 0), (Iv kind), (Bo (icmp .eql kind 10)), (Bo (icmp .eql kind 0)), (Bo (icmp .eql kind 8)), (Bo (icmp .eql kind 10)), (Bo (icmp .eql kind 12)), Ud, Ud, Ud, Ud, Ud, Ud, Ud, Ud, Ud, Ud, Ud, Ud]) rfl rfl (does_icmp (p := kind) (q := 12) (.inl rfl) (ev rfl) (ev rfl)) rfl ?_
  refine q_is (l' := [(Iv kind), Ud, (Iv 0), (Iv kind), (Bo (icmp .eql kind 12)), (Bo (icmp .eql kind 0)), (Bo (icmp .eql kind 8)), (Bo (icmp .eql kind 10)), (Bo (icmp .eql kind 12)), Ud, Ud, Ud, Ud, Ud, Ud, Ud, Ud, Ud, Ud, Ud, Ud]) rfl rfl (does_assign (u := (Bo (icmp .eql kind 12))) (ev rfl)) rfl ?_
  refine wpList_nil (hK17 _ _ ?_)
  refine wp_cond_split (t := icmp .eql kind 12) (ev rfl) (fun c18 => ?_) (fun c18 => ?_)
  · have c18' := c18
    (try simp only [icmp, Bool.and_eq_true, Bool.or_eq_true, Bool.and_eq_false_iff, Bool.or_eq_false_iff, Bool.not_eq_true', Bool.not_eq_false', decide_eq_true_eq, decide_eq_false_iff_not, beq_iff_eq, bne_iff_ne, beq_eq_false_iff_ne, bne_eq_false_iff_eq] at c18')
    refine wp_skip (hK4 _ _ ?_)
    refine wp_cond_true ((ev (rfl : evl _ _ = .bool (icmp .eql kind 12))).trans (congrArg Value.bool c18)) ?_
    refine wp_seq_k fun K19 hK19 => ?_
    refine wp_region_lit ?_
    refine q_is (l' := [(Iv kind), Ud, (Iv 1), (Iv kind), (Bo (icmp .eql kind 12)), (Bo (icmp .eql kind 0)), (Bo (icmp .eql kind 8)), (Bo (icmp .eql kind 10)), (Bo (icmp .eql kind 12)), Ud, Ud, Ud, Ud, Ud, Ud, Ud, Ud, Ud, Ud, Ud, Ud]) rfl rfl (does_assign (u := (Iv 1)) (ev rfl)) rfl ?_
    refine wpList_nil (hK19 _ _ ?_)
    refine wp_ret ?_
    dsimp only [Exit.then, Exit.inBlock]
    refine ret_val (v := (Iv 1)) (res_T rfl (slot rfl)) (Ext.refl w) ?_
    have x20 : (rlNum kind : Int) = 1 := by first | (simp_all [rlNum, icmp]; done) | (simp [rlNum]; omega)
    exact (by first | with_reducible rfl | rw [x20] | rfl)
  have c18' := c18
  (try simp only [icmp, Bool.and_eq_true, Bool.or_eq_true, Bool.and_eq_false_iff, Bool.or_eq_false_iff, Bool.not_eq_true', Bool.not_eq_false', decide_eq_true_eq, decide_eq_false_iff_not, beq_iff_eq, bne_iff_ne, beq_eq_false_iff_ne, bne_eq_false_iff_eq] at c18')
  refine wp_seq_k fun K21 hK21 => ?_
  refine wp_region_lit ?_
  refine q_is (l' := [(Iv kind), Ud, (Iv 0), (Iv kind), (Bo (icmp .eql kind 12)), (Bo (icmp .eql kind 0)), (Bo (icmp .eql kind 8)), (Bo (icmp .eql kind 10)), (Bo (icmp .eql kind 12)), (Bo (icmp .eql kind 14)), Ud, Ud, Ud, Ud, Ud, Ud, Ud, Ud, Ud, Ud, Ud]) rfl rfl (does_icmp (p := kind) (q := 14) (.inl rfl) (ev rfl) (ev rfl)) rfl ?_
  refine q_is (l' := [(Iv kind), Ud, (Iv 0), (Iv kind), (Bo (icmp .eql kind 14)), (Bo (icmp .eql kind 0)), (Bo (icmp .eql kind 8)), (Bo (icmp .eql kind 10)), (Bo (icmp .eql kind 12)), (Bo (icmp .eql kind 14)), Ud, Ud, Ud, Ud, Ud, Ud, Ud, Ud, Ud, Ud, Ud]) rfl rfl (does_assign (u := (Bo (icmp .eql kind 14))) (ev rfl)) rfl ?_
  refine wpList_nil (hK21 _ _ ?_)
  refine wp_cond_split (t := icmp .eql kind 14) (ev rfl) (fun c22 => ?_) (fun c22 => ?_)
  · have c22' := c22
    (try simp only [icmp, Bool.and_eq_true, Bool.or_eq_true, Bool.and_eq_false_iff, Bool.or_eq_false_iff, Bool.not_eq_true', Bool.not_eq_false', decide_eq_true_eq, decide_eq_false_iff_not, beq_iff_eq, bne_iff_ne, beq_eq_false_iff_ne, bne_eq_false_iff_eq] at c22')
    refine wp_skip (hK4 _ _ ?_)
    refine wp_cond_true ((ev (rfl : evl _ _ = .bool (icmp .eql kind 14))).trans (congrArg Value.bool c22)) ?_
    refine wp_seq_k fun K23 hK23 => ?_
    refine wp_region_lit ?_
    refine q_is (l' := [(Iv kind), Ud, (Iv 1), (Iv kind), (Bo (icmp .eql kind 14)), (Bo (icmp .eql kind 0)), (Bo (icmp .eql kind 8)), (Bo (icmp .eql kind 10)), (Bo (icmp .eql kind 12)), (Bo (icmp .eql kind 14)), Ud, Ud, Ud, Ud, Ud, Ud, Ud, Ud, Ud, Ud, Ud]) rfl rfl (does_assign (u := (Iv 1)) (ev rfl)) rfl ?_
    refine wpList_nil (hK23 _ _ ?_)
    refine wp_ret ?_
    dsimp only [Exit.then, Exit.inBlock]
    refine ret_val (v := (Iv 1)) (res_T rfl (slot rfl)) (Ext.refl w) ?_
    have x24 : (rlNum kind : Int) = 1 := by first | (simp_all [rlNum, icmp]; done) | (simp [rlNum]; omega)
    exact (by first | with_reducible rfl | rw [x24] | rfl)
  have c22' := c22
  (try simp only [icmp, Bool.and_eq_true, Bool.or_eq_true, Bool.and_eq_false_iff, Bool.or_eq_false_iff, Bool.not_eq_true', Bool.not_eq_false', decide_eq_true_eq, decide_eq_false_iff_not, beq_iff_eq, bne_iff_ne, beq_eq_false_iff_ne, bne_eq_false_iff_eq] at c22')
  refine wp_seq_k fun K25 hK25 => ?_
  refine wp_region_lit ?_
  refine q_is (l' := [(Iv kind), Ud, (Iv 0), (Iv kind), (Bo (icmp .eql kind 14)), (Bo (icmp .eql kind 0)), (Bo (icmp .eql kind 8)), (Bo (icmp .eql kind 10)), (Bo (icmp .eql kind 12)), (Bo (icmp .eql kind 14)), (Bo (icmp .eql kind 15)), Ud, Ud, Ud, Ud, Ud, Ud, Ud, Ud, Ud, Ud]) rfl rfl (does_icmp (p := kind) (q := 15) (.inl rfl) (ev rfl) (ev rfl)) rfl ?_
  refine q_is (l' := [(Iv kind), Ud, (Iv 0), (Iv kind), (Bo (icmp .eql kind 15)), (Bo (icmp .eql kind 0)), (Bo (icmp .eql kind 8)), (Bo (icmp .eql kind 10)), (Bo (icmp .eql kind 12)), (Bo (icmp .eql kind 14)), (Bo (icmp .eql kind 15)), Ud, Ud, Ud, Ud, Ud, Ud, Ud, Ud, Ud, Ud]) rfl rfl (does_assign (u := (Bo (icmp .eql kind 15))) (ev rfl)) rfl ?_
  refine wpList_nil (hK25 _ _ ?_)
  refine wp_cond_split (t := icmp .eql kind 15) (ev rfl) (fun c26 => ?_) (fun c26 => ?_)
  · have c26' := c26
    (try simp only [icmp, Bool.and_eq_true, Bool.or_eq_true, Bool.and_eq_false_iff, Bool.or_eq_false_iff, Bool.not_eq_true', Bool.not_eq_false', decide_eq_true_eq, decide_eq_false_iff_not, beq_iff_eq, bne_iff_ne, beq_eq_false_iff_ne, bne_eq_false_iff_eq] at c26')
    refine wp_skip (hK4 _ _ ?_)
    refine wp_cond_true ((ev (rfl : evl _ _ = .bool (icmp .eql kind 15))).trans (congrArg Value.bool c26)) ?_
    refine wp_seq_k fun K27 hK27 => ?_
    refine wp_region_lit ?_
    refine q_is (l' := [(Iv kind), Ud, (Iv 1), (Iv kind), (Bo (icmp .eql kind 15)), (Bo (icmp .eql kind 0)), (Bo (icmp .eql kind 8)), (Bo (icmp .eql kind 10)), (Bo (icmp .eql kind 12)), (Bo (icmp .eql kind 14)), (Bo (icmp .eql kind 15)), Ud, Ud, Ud, Ud, Ud, Ud, Ud, Ud, Ud, Ud]) rfl rfl (does_assign (u := (Iv 1)) (ev rfl)) rfl ?_
    refine wpList_nil (hK27 _ _ ?_)
    refine wp_ret ?_
    dsimp only [Exit.then, Exit.inBlock]
    refine ret_val (v := (Iv 1)) (res_T rfl (slot rfl)) (Ext.refl w) ?_
    have x28 : (rlNum kind : Int) = 1 := by first | (simp_all [rlNum, icmp]; done) | (simp [rlNum]; omega)
    exact (by first | with_reducible rfl | rw [x28] | rfl)
  have c26' := c26
  (try simp only [icmp, Bool.and_eq_true, Bool.or_eq_true, Bool.and_eq_false_iff, Bool.or_eq_false_iff, Bool.not_eq_true', Bool.not_eq_false', decide_eq_true_eq, decide_eq_false_iff_not, beq_iff_eq, bne_iff_ne, beq_eq_false_iff_ne, bne_eq_false_iff_eq] at c26')
  refine wp_region_lit ?_
  refine q_is (l' := [(Iv kind), Ud, (Iv 0), (Iv kind), (Bo (icmp .eql kind 15)), (Bo (icmp .eql kind 0)), (Bo (icmp .eql kind 8)), (Bo (icmp .eql kind 10)), (Bo (icmp .eql kind 12)), (Bo (icmp .eql kind 14)), (Bo (icmp .eql kind 15)), (Bo (icmp .eql kind 16)), Ud, Ud, Ud, Ud, Ud, Ud, Ud, Ud, Ud]) rfl rfl (does_icmp (p := kind) (q := 16) (.inl rfl) (ev rfl) (ev rfl)) rfl ?_
  refine q_is (l' := [(Iv kind), Ud, (Iv 0), (Iv kind), (Bo (icmp .eql kind 16)), (Bo (icmp .eql kind 0)), (Bo (icmp .eql kind 8)), (Bo (icmp .eql kind 10)), (Bo (icmp .eql kind 12)), (Bo (icmp .eql kind 14)), (Bo (icmp .eql kind 15)), (Bo (icmp .eql kind 16)), Ud, Ud, Ud, Ud, Ud, Ud, Ud, Ud, Ud]) rfl rfl (does_assign (u := (Bo (icmp .eql kind 16))) (ev rfl)) rfl ?_
  refine wpList_nil (hK4 _ _ ?_)
  refine wp_cond_split (t := icmp .eql kind 16) (ev rfl) (fun c29 => ?_) (fun c29 => ?_)
  · have c29' := c29
    (try simp only [icmp, Bool.and_eq_true, Bool.or_eq_true, Bool.and_eq_false_iff, Bool.or_eq_false_iff, Bool.not_eq_true', Bool.not_eq_false', decide_eq_true_eq, decide_eq_false_iff_not, beq_iff_eq, bne_iff_ne, beq_eq_false_iff_ne, bne_eq_false_iff_eq] at c29')
    refine wp_seq_k fun K30 hK30 => ?_
    refine wp_region_lit ?_
    refine q_is (l' := [(Iv kind), Ud, (Iv 1), (Iv kind), (Bo (icmp .eql kind 16)), (Bo (icmp .eql kind 0)), (Bo (icmp .eql kind 8)), (Bo (icmp .eql kind 10)), (Bo (icmp .eql kind 12)), (Bo (icmp .eql kind 14)), (Bo (icmp .eql kind 15)), (Bo (icmp .eql kind 16)), Ud, Ud, Ud, Ud, Ud, Ud, Ud, Ud, Ud]) rfl rfl (does_assign (u := (Iv 1)) (ev rfl)) rfl ?_
    refine wpList_nil (hK30 _ _ ?_)
    refine wp_ret ?_
    dsimp only [Exit.then, Exit.inBlock]
    refine ret_val (v := (Iv 1)) (res_T rfl (slot rfl)) (Ext.refl w) ?_
    have x31 : (rlNum kind : Int) = 1 := by first | (simp_all [rlNum, icmp]; done) | (simp [rlNum]; omega)
    exact (by first | with_reducible rfl | rw [x31] | rfl)
  have c29' := c29
  (try simp only [icmp, Bool.and_eq_true, Bool.or_eq_true, Bool.and_eq_false_iff, Bool.or_eq_false_iff, Bool.not_eq_true', Bool.not_eq_false', decide_eq_true_eq, decide_eq_false_iff_not, beq_iff_eq, bne_iff_ne, beq_eq_false_iff_ne, bne_eq_false_iff_eq] at c29')
  refine wp_seq_k fun K32 hK32 => ?_
  refine wp_seq_k fun K33 hK33 => ?_
  refine wp_region_lit ?_
  refine q_is (l' := [(Iv kind), Ud, (Iv 0), (Iv kind), (Bo (icmp .eql kind 16)), (Bo (icmp .eql kind 0)), (Bo (icmp .eql kind 8)), (Bo (icmp .eql kind 10)), (Bo (icmp .eql kind 12)), (Bo (icmp .eql kind 14)), (Bo (icmp .eql kind 15)), (Bo (icmp .eql kind 16)), Ud, (Bo (icmp .eql kind 2)), Ud, Ud, Ud, Ud, Ud, Ud, Ud]) rfl rfl (does_icmp (p := kind) (q := 2) (.inl rfl) (ev rfl) (ev rfl)) rfl ?_
  refine q_is (l' := [(Iv kind), Ud, (Iv 0), (Iv kind), (Bo (icmp .eql kind 16)), (Bo (icmp .eql kind 0)), (Bo (icmp .eql kind 8)), (Bo (icmp .eql kind 10)), (Bo (icmp .eql kind 12)), (Bo (icmp .eql kind 14)), (Bo (icmp .eql kind 15)), (Bo (icmp .eql kind 16)), (Bo (icmp .eql kind 2)), (Bo (icmp .eql kind 2)), Ud, Ud, Ud, Ud, Ud, Ud, Ud]) rfl rfl (does_assign (u := (Bo (icmp .eql kind 2))) (ev rfl)) rfl ?_
  refine wpList_nil (hK33 _ _ ?_)
  refine wp_cond_split (t := icmp .eql kind 2) (ev rfl) (fun c34 => ?_) (fun c34 => ?_)
  · have c34' := c34
    (try simp only [icmp, Bool.and_eq_true, Bool.or_eq_true, Bool.and_eq_false_iff, Bool.or_eq_false_iff, Bool.not_eq_true', Bool.not_eq_false', decide_eq_true_eq, decide_eq_false_iff_not, beq_iff_eq, bne_iff_ne, beq_eq_false_iff_ne, bne_eq_false_iff_eq] at c34')
    refine wp_skip (hK32 _ _ ?_)
    refine wp_cond_true ((ev (rfl : evl _ _ = .bool (icmp .eql kind 2))).trans (congrArg Value.bool c34)) ?_
    refine wp_seq_k fun K35 hK35 => ?_
    refine wp_region_lit ?_
    refine q_is (l' := [(Iv kind), Ud, (Iv 2), (Iv kind), (Bo (icmp .eql kind 16)), (Bo (icmp .eql kind 0)), (Bo (icmp .eql kind 8)), (Bo (icmp .eql kind 10)), (Bo (icmp .eql kind 12)), (Bo (icmp .eql kind 14)), (Bo (icmp .eql kind 15)), (Bo (icmp .eql kind 16)), (Bo (icmp .eql kind 2)), (Bo (icmp .eql kind 2)), Ud, Ud, Ud, Ud, Ud, Ud, Ud]) rfl rfl (does_assign (u := (Iv 2)) (ev rfl)) rfl ?_
    refine wpList_nil (hK35 _ _ ?_)
    refine wp_ret ?_
    dsimp only [Exit.then, Exit.inBlock]
    refine ret_val (v := (Iv 2)) (res_T rfl (slot rfl)) (Ext.refl w) ?_
    have x36 : (rlNum kind : Int) = 2 := by first | (simp_all [rlNum, icmp]; done) | (simp [rlNum]; omega)
    exact (by first | with_reducible rfl | rw [x36] | rfl)
  have c34' := c34
  (try simp only [icmp, Bool.and_eq_true, Bool.or_eq_true, Bool.and_eq_false_iff, Bool.or_eq_false_iff, Bool.not_eq_true', Bool.not_eq_false', decide_eq_true_eq, decide_eq_false_iff_not, beq_iff_eq, bne_iff_ne, beq_eq_false_iff_ne, bne_eq_false_iff_eq] at c34')
  refine wp_region_lit ?_
  refine q_is (l' := [(Iv kind), Ud, (Iv 0), (Iv kind), (Bo (icmp .eql kind 16)), (Bo (icmp .eql kind 0)), (Bo (icmp .eql kind 8)), (Bo (icmp .eql kind 10)), (Bo (icmp .eql kind 12)), (Bo (icmp .eql kind 14)), (Bo (icmp .eql kind 15)), (Bo (icmp .eql kind 16)), (Bo (icmp .eql kind 2)), (Bo (icmp .eql kind 2)), (Bo (icmp .eql kind 3)), Ud, Ud, Ud, Ud, Ud, Ud]) rfl rfl (does_icmp (p := kind) (q := 3) (.inl rfl) (ev rfl) (ev rfl)) rfl ?_
  refine q_is (l' := [(Iv kind), Ud, (Iv 0), (Iv kind), (Bo (icmp .eql kind 16)), (Bo (icmp .eql kind 0)), (Bo (icmp .eql kind 8)), (Bo (icmp .eql kind 10)), (Bo (icmp .eql kind 12)), (Bo (icmp .eql kind 14)), (Bo (icmp .eql kind 15)), (Bo (icmp .eql kind 16)), (Bo (icmp .eql kind 3)), (Bo (icmp .eql kind 2)), (Bo (icmp .eql kind 3)), Ud, Ud, Ud, Ud, Ud, Ud]) rfl rfl (does_assign (u := (Bo (icmp .eql kind 3))) (ev rfl)) rfl ?_
  refine wpList_nil (hK32 _ _ ?_)
  refine wp_cond_split (t := icmp .eql kind 3) (ev rfl) (fun c37 => ?_) (fun c37 => ?_)
  · have c37' := c37
    (try simp only [icmp, Bool.and_eq_true, Bool.or_eq_true, Bool.and_eq_false_iff, Bool.or_eq_false_iff, Bool.not_eq_true', Bool.not_eq_false', decide_eq_true_eq, decide_eq_false_iff_not, beq_iff_eq, bne_iff_ne, beq_eq_false_iff_ne, bne_eq_false_iff_eq] at c37')
    refine wp_seq_k fun K38 hK38 => ?_
    refine wp_region_lit ?_
    refine q_is (l' := [(Iv kind), Ud, (Iv 2), (Iv kind), (Bo (icmp .eql kind 16)), (Bo (icmp .eql kind 0)), (Bo (icmp .eql kind 8)), (Bo (icmp .eql kind 10)), (Bo (icmp .eql kind 12)), (Bo (icmp .eql kind 14)), (Bo (icmp .eql kind 15)), (Bo (icmp .eql kind 16)), (Bo (icmp .eql kind 3)), (Bo (icmp .eql kind 2)), (Bo (icmp .eql kind 3)), Ud, Ud, Ud, Ud, Ud, Ud]) rfl rfl (does_assign (u := (Iv 2)) (ev rfl)) rfl ?_
    refine wpList_nil (hK38 _ _ ?_)
    refine wp_ret ?_
    dsimp only [Exit.then, Exit.inBlock]
    refine ret_val (v := (Iv 2)) (res_T rfl (slot rfl)) (Ext.refl w) ?_
    have x39 : (rlNum kind : Int) = 2 := by first | (simp_all [rlNum, icmp]; done) | (simp [rlNum]; omega)
    exact (by first | with_reducible rfl | rw [x39] | rfl)
  have c37' := c37
  (try simp only [icmp, Bool.and_eq_true, Bool.or_eq_true, Bool.and_eq_false_iff, Bool.or_eq_false_iff, Bool.not_eq_true', Bool.not_eq_false', decide_eq_true_eq, decide_eq_false_iff_not, beq_iff_eq, bne_iff_ne, beq_eq_false_iff_ne, bne_eq_false_iff_eq] at c37')
  refine wp_seq_k fun K40 hK40 => ?_
  refine wp_seq_k fun K41 hK41 => ?_
  refine wp_region_lit ?_
  refine q_is (l' := [(Iv kind), Ud, (Iv 0), (Iv kind), (Bo (icmp .eql kind 16)), (Bo (icmp .eql kind 0)), (Bo (icmp .eql kind 8)), (Bo (icmp .eql kind 10)), (Bo (icmp .eql kind 12)), (Bo (icmp .eql kind 14)), (Bo (icmp .eql kind 15)), (Bo (icmp .eql kind 16)), (Bo (icmp .eql kind 3)), (Bo (icmp .eql kind 2)), (Bo (icmp .eql kind 3)), Ud, (Bo (icmp .eql kind 1)), Ud, Ud, Ud, Ud]) rfl rfl (does_icmp (p := kind) (q := 1) (.inl rfl) (ev rfl) (ev rfl)) rfl ?_
  refine q_is (l' := [(Iv kind), Ud, (Iv 0), (Iv kind), (Bo (icmp .eql kind 16)), (Bo (icmp .eql kind 0)), (Bo (icmp .eql kind 8)), (Bo (icmp .eql kind 10)), (Bo (icmp .eql kind 12)), (Bo (icmp .eql kind 14)), (Bo (icmp .eql kind 15)), (Bo (icmp .eql kind 16)), (Bo (icmp .eql kind 3)), (Bo (icmp .eql kind 2)), (Bo (icmp .eql kind 3)), (Bo (icmp .eql kind 1)), (Bo (icmp .eql kind 1)), Ud, Ud, Ud, Ud]) rfl rfl (does_assign (u := (Bo (icmp .eql kind 1))) (ev rfl)) rfl ?_
  refine wpList_nil (hK41 _ _ ?_)
  refine wp_cond_split (t := icmp .eql kind 1) (ev rfl) (fun c42 => ?_) (fun c42 => ?_)
  · have c42' := c42
    (try simp only [icmp, Bool.and_eq_true, Bool.or_eq_true, Bool.and_eq_false_iff, Bool.or_eq_false_iff, Bool.not_eq_true', Bool.not_eq_false', decide_eq_true_eq, decide_eq_false_iff_not, beq_iff_eq, bne_iff_ne, beq_eq_false_iff_ne, bne_eq_false_iff_eq] at c42')
    refine wp_skip (hK40 _ _ ?_)
    refine wp_cond_true ((ev (rfl : evl _ _ = .bool (icmp .eql kind 1))).trans (congrArg Value.bool c42)) ?_
    refine wp_seq_k fun K43 hK43 => ?_
    refine wp_region_lit ?_
    refine q_is (l' := [(Iv kind), Ud, (Iv 3), (Iv kind), (Bo (icmp .eql kind 16)), (Bo (icmp .eql kind 0)), (Bo (icmp .eql kind 8)), (Bo (icmp .eql kind 10)), (Bo (icmp .eql kind 12)), (Bo (icmp .eql kind 14)), (Bo (icmp .eql kind 15)), (Bo (icmp .eql kind 16)), (Bo (icmp .eql kind 3)), (Bo (icmp .eql kind 2)), (Bo (icmp .eql kind 3)), (Bo (icmp .eql kind 1)), (Bo (icmp .eql kind 1)), Ud, Ud, Ud, Ud]) rfl rfl (does_assign (u := (Iv 3)) (ev rfl)) rfl ?_
    refine wpList_nil (hK43 _ _ ?_)
    refine wp_ret ?_
    dsimp only [Exit.then, Exit.inBlock]
    refine ret_val (v := (Iv 3)) (res_T rfl (slot rfl)) (Ext.refl w) ?_
    have x44 : (rlNum kind : Int) = 3 := by first | (simp_all [rlNum, icmp]; done) | (simp [rlNum]; omega)
    exact (by first | with_reducible rfl | rw [x44] | rfl)
  have c42' := c42
  (try simp only [icmp, Bool.and_eq_true, Bool.or_eq_true, Bool.and_eq_false_iff, Bool.or_eq_false_iff, Bool.not_eq_true', Bool.not_eq_false', decide_eq_true_eq, decide_eq_false_iff_not, beq_iff_eq, bne_iff_ne, beq_eq_false_iff_ne, bne_eq_false_iff_eq] at c42')
  refine wp_seq_k fun K45 hK45 => ?_
  refine wp_region_lit ?_
  refine q_is (l' := [(Iv kind), Ud, (Iv 0), (Iv kind), (Bo (icmp .eql kind 16)), (Bo (icmp .eql kind 0)), (Bo (icmp .eql kind 8)), (Bo (icmp .eql kind 10)), (Bo (icmp .eql kind 12)), (Bo (icmp .eql kind 14)), (Bo (icmp .eql kind 15)), (Bo (icmp .eql kind 16)), (Bo (icmp .eql kind 3)), (Bo (icmp .eql kind 2)), (Bo (icmp .eql kind 3)), (Bo (icmp .eql kind 1)), (Bo (icmp .eql kind 1)), (Bo (icmp .eql kind 9)), Ud, Ud, Ud]) rfl rfl (does_icmp (p := kind) (q := 9) (.inl rfl) (ev rfl) (ev rfl)) rfl ?_
  refine q_is (l' := [(Iv kind), Ud, (Iv 0), (Iv kind), (Bo (icmp .eql kind 16)), (Bo (icmp .eql kind 0)), (Bo (icmp .eql kind 8)), (Bo (icmp .eql kind 10)), (Bo (icmp .eql kind 12)), (Bo (icmp .eql kind 14)), (Bo (icmp .eql kind 15)), (Bo (icmp .eql kind 16)), (Bo (icmp .eql kind 3)), (Bo (icmp .eql kind 2)), (Bo (icmp .eql kind 3)), (Bo (icmp .eql kind 9)), (Bo (icmp .eql kind 1)), (Bo (icmp .eql kind 9)), Ud, Ud, Ud]) rfl rfl (does_assign (u := (Bo (icmp .eql kind 9))) (ev rfl)) rfl ?_
  refine wpList_nil (hK45 _ _ ?_)
  refine wp_cond_split (t := icmp .eql kind 9) (ev rfl) (fun c46 => ?_) (fun c46 => ?_)
  · have c46' := c46
    (try simp only [icmp, Bool.and_eq_true, Bool.or_eq_true, Bool.and_eq_false_iff, Bool.or_eq_false_iff, Bool.not_eq_true', Bool.not_eq_false', decide_eq_true_eq, decide_eq_false_iff_not, beq_iff_eq, bne_iff_ne, beq_eq_false_iff_ne, bne_eq_false_iff_eq] at c46')
    refine wp_skip (hK40 _ _ ?_)
    refine wp_cond_true ((ev (rfl : evl _ _ = .bool (icmp .eql kind 9))).trans (congrArg Value.bool c46)) ?_
    refine wp_seq_k fun K47 hK47 => ?_
    refine wp_region_lit ?_
    refine q_is (l' := [(Iv kind), Ud, (Iv 3), (Iv kind), (Bo (icmp .eql kind 16)), (Bo (icmp .eql kind 0)), (Bo (icmp .eql kind 8)), (Bo (icmp .eql kind 10)), (Bo (icmp .eql kind 12)), (Bo (icmp .eql kind 14)), (Bo (icmp .eql kind 15)), (Bo (icmp .eql kind 16)), (Bo (icmp .eql kind 3)), (Bo (icmp .eql kind 2)), (Bo (icmp .eql kind 3)), (Bo (icmp .eql kind 9)), (Bo (icmp .eql kind 1)), (Bo (icmp .eql kind 9)), Ud, Ud, Ud]) rfl rfl (does_assign (u := (Iv 3)) (ev rfl)) rfl ?_
    refine wpList_nil (hK47 _ _ ?_)
    refine wp_ret ?_
    dsimp only [Exit.then, Exit.inBlock]
    refine ret_val (v := (Iv 3)) (res_T rfl (slot rfl)) (Ext.refl w) ?_
    have x48 : (rlNum kind : Int) = 3 := by first | (simp_all [rlNum, icmp]; done) | (simp [rlNum]; omega)
    exact (by first | with_reducible rfl | rw [x48] | rfl)
  have c46' := c46
  (try simp only [icmp, Bool.and_eq_true, Bool.or_eq_true, Bool.and_eq_false_iff, Bool.or_eq_false_iff, Bool.not_eq_true', Bool.not_eq_false', decide_eq_true_eq, decide_eq_false_iff_not, beq_iff_eq, bne_iff_ne, beq_eq_false_iff_ne, bne_eq_false_iff_eq] at c46')
  refine wp_region_lit ?_
  refine q_is (l' := [(Iv kind), Ud, (Iv 0), (Iv kind), (Bo (icmp .eql kind 16)), (Bo (icmp .eql kind 0)), (Bo (icmp .eql kind 8)), (Bo (icmp .eql kind 10)), (Bo (icmp .eql kind 12)), (Bo (icmp .eql kind 14)), (Bo (icmp .eql kind 15)), (Bo (icmp .eql kind 16)), (Bo (icmp .eql kind 3)), (Bo (icmp .eql kind 2)), (Bo (icmp .eql kind 3)), (Bo (icmp .eql kind 9)), (Bo (icmp .eql kind 1)), (Bo (icmp .eql kind 9)), (Bo (icmp .eql kind 11)), Ud, Ud]) rfl rfl (does_icmp (p := kind) (q := 11) (.inl rfl) (ev rfl) (ev rfl)) rfl ?_
  refine q_is (l' := [(Iv kind), Ud, (Iv 0), (Iv kind), (Bo (icmp .eql kind 16)), (Bo (icmp .eql kind 0)), (Bo (icmp .eql kind 8)), (Bo (icmp .eql kind 10)), (Bo (icmp .eql kind 12)), (Bo (icmp .eql kind 14)), (Bo (icmp .eql kind 15)), (Bo (icmp .eql kind 16)), (Bo (icmp .eql kind 3)), (Bo (icmp .eql kind 2)), (Bo (icmp .eql kind 3)), (Bo (icmp .eql kind 11)), (Bo (icmp .eql kind 1)), (Bo (icmp .eql kind 9)), (Bo (icmp .eql kind 11)), Ud, Ud]) rfl rfl (does_assign (u := (Bo (icmp .eql kind 11))) (ev rfl)) rfl ?_
  refine wpList_nil (hK40 _ _ ?_)
  refine wp_cond_split (t := icmp .eql kind 11) (ev rfl) (fun c49 => ?_) (fun c49 => ?_)
  · have c49' := c49
    (try simp only [icmp, Bool.and_eq_true, Bool.or_eq_true, Bool.and_eq_false_iff, Bool.or_eq_false_iff, Bool.not_eq_true', Bool.not_eq_false', decide_eq_true_eq, decide_eq_false_iff_not, beq_iff_eq, bne_iff_ne, beq_eq_false_iff_ne, bne_eq_false_iff_eq] at c49')
    refine wp_seq_k fun K50 hK50 => ?_
    refine wp_region_lit ?_
    refine q_is (l' := [(Iv kind), Ud, (Iv 3), (Iv kind), (Bo (icmp .eql kind 16)), (Bo (icmp .eql kind 0)), (Bo (icmp .eql kind 8)), (Bo (icmp .eql kind 10)), (Bo (icmp .eql kind 12)), (Bo (icmp .eql kind 14)), (Bo (icmp .eql kind 15)), (Bo (icmp .eql kind 16)), (Bo (icmp .eql kind 3)), (Bo (icmp .eql kind 2)), (Bo (icmp .eql kind 3)), (Bo (icmp .eql kind 11)), (Bo (icmp .eql kind 1)), (Bo (icmp .eql kind 9)), (Bo (icmp .eql kind 11)), Ud, Ud]) rfl rfl (does_assign (u := (Iv 3)) (ev rfl)) rfl ?_
    refine wpList_nil (hK50 _ _ ?_)
    refine wp_ret ?_
    dsimp only [Exit.then, Exit.inBlock]
    refine ret_val (v := (Iv 3)) (res_T rfl (slot rfl)) (Ext.refl w) ?_
    have x51 : (rlNum kind : Int) = 3 := by first | (simp_all [rlNum, icmp]; done) | (simp [rlNum]; omega)
    exact (by first | with_reducible rfl | rw [x51] | rfl)
  have c49' := c49
  (try simp only [icmp, Bool.and_eq_true, Bool.or_eq_true, Bool.and_eq_false_iff, Bool.or_eq_false_iff, Bool.not_eq_true', Bool.not_eq_false', decide_eq_true_eq, decide_eq_false_iff_not, beq_iff_eq, bne_iff_ne, beq_eq_false_iff_ne, bne_eq_false_iff_eq] at c49')
  refine wp_seq_k fun K52 hK52 => ?_
  refine wp_region_lit ?_
  refine q_is (l' := [(Iv kind), Ud, (Iv 0), (Iv kind), (Bo (icmp .eql kind 16)), (Bo (icmp .eql kind 0)), (Bo (icmp .eql kind 8)), (Bo (icmp .eql kind 10)), (Bo (icmp .eql kind 12)), (Bo (icmp .eql kind 14)), (Bo (icmp .eql kind 15)), (Bo (icmp .eql kind 16)), (Bo (icmp .eql kind 3)), (Bo (icmp .eql kind 2)), (Bo (icmp .eql kind 3)), (Bo (icmp .eql kind 11)), (Bo (icmp .eql kind 1)), (Bo (icmp .eql kind 9)), (Bo (icmp .eql kind 11)), Ud, (Bo (icmp .eql kind 4))]) rfl rfl (does_icmp (p := kind) (q := 4) (.inl rfl) (ev rfl) (ev rfl)) rfl ?_
  refine q_is (l' := [(Iv kind), Ud, (Iv 0), (Iv kind), (Bo (icmp .eql kind 16)), (Bo (icmp .eql kind 0)), (Bo (icmp .eql kind 8)), (Bo (icmp .eql kind 10)), (Bo (icmp .eql kind 12)), (Bo (icmp .eql kind 14)), (Bo (icmp .eql kind 15)), (Bo (icmp .eql kind 16)), (Bo (icmp .eql kind 3)), (Bo (icmp .eql kind 2)), (Bo (icmp .eql kind 3)), (Bo (icmp .eql kind 11)), (Bo (icmp .eql kind 1)), (Bo (icmp .eql kind 9)), (Bo (icmp .eql kind 11)), (Bo (icmp .eql kind 4)), (Bo (icmp .eql kind 4))]) rfl rfl (does_assign (u := (Bo (icmp .eql kind 4))) (ev rfl)) rfl ?_
  refine wpList_nil (hK52 _ _ ?_)
  refine wp_cond_split (t := icmp .eql kind 4) (ev rfl) (fun c53 => ?_) (fun c53 => ?_)
  · have c53' := c53
    (try simp only [icmp, Bool.and_eq_true, Bool.or_eq_true, Bool.and_eq_false_iff, Bool.or_eq_false_iff, Bool.not_eq_true', Bool.not_eq_false', decide_eq_true_eq, decide_eq_false_iff_not, beq_iff_eq, bne_iff_ne, beq_eq_false_iff_ne, bne_eq_false_iff_eq] at c53')
    refine wp_seq_k fun K54 hK54 => ?_
    refine wp_region_lit ?_
    refine q_is (l' := [(Iv kind), Ud, (Iv 4), (Iv kind), (Bo (icmp .eql kind 16)), (Bo (icmp .eql kind 0)), (Bo (icmp .eql kind 8)), (Bo (icmp .eql kind 10)), (Bo (icmp .eql kind 12)), (Bo (icmp .eql kind 14)), (Bo (icmp .eql kind 15)), (Bo (icmp .eql kind 16)), (Bo (icmp .eql kind 3)), (Bo (icmp .eql kind 2)), (Bo (icmp .eql kind 3)), (Bo (icmp .eql kind 11)), (Bo (icmp .eql kind 1)), (Bo (icmp .eql kind 9)), (Bo (icmp .eql kind 11)), (Bo (icmp .eql kind 4)), (Bo (icmp .eql kind 4))]) rfl rfl (does_assign (u := (Iv 4)) (ev rfl)) rfl ?_
    refine wpList_nil (hK54 _ _ ?_)
    refine wp_ret ?_
    dsimp only [Exit.then, Exit.inBlock]
    refine ret_val (v := (Iv 4)) (res_T rfl (slot rfl)) (Ext.refl w) ?_
    have x55 : (rlNum kind : Int) = 4 := by first | (simp_all [rlNum, icmp]; done) | (simp [rlNum]; omega)
    exact (by first | with_reducible rfl | rw [x55] | rfl)
  have c53' := c53
  (try simp only [icmp, Bool.and_eq_true, Bool.or_eq_true, Bool.and_eq_false_iff, Bool.or_eq_false_iff, Bool.not_eq_true', Bool.not_eq_false', decide_eq_true_eq, decide_eq_false_iff_not, beq_iff_eq, bne_iff_ne, beq_eq_false_iff_ne, bne_eq_false_iff_eq] at c53')
  refine wp_skip (hK2 _ _ ?_)
  refine wp_seq_k fun K56 hK56 => ?_
  refine wp_region_lit ?_
  refine q_is (l' := [(Iv kind), Ud, (Iv 0), (Iv kind), (Bo (icmp .eql kind 16)), (Bo (icmp .eql kind 0)), (Bo (icmp .eql kind 8)), (Bo (icmp .eql kind 10)), (Bo (icmp .eql kind 12)), (Bo (icmp .eql kind 14)), (Bo (icmp .eql kind 15)), (Bo (icmp .eql kind 16)), (Bo (icmp .eql kind 3)), (Bo (icmp .eql kind 2)), (Bo (icmp .eql kind 3)), (Bo (icmp .eql kind 11)), (Bo (icmp .eql kind 1)), (Bo (icmp .eql kind 9)), (Bo (icmp .eql kind 11)), (Bo (icmp .eql kind 4)), (Bo (icmp .eql kind 4))]) rfl rfl (does_assign (u := (Iv 0)) (ev rfl)) rfl ?_
  refine wpList_nil (hK56 _ _ ?_)
  refine wp_ret ?_
  refine ret_val (v := (Iv 0)) (res_T rfl (slot rfl)) (Ext.refl w) ?_
  have x57 : (rlNum kind : Int) = 0 := by first | (simp_all [rlNum, icmp]; done) | (simp [rlNum]; omega)
  exact (by first | with_reducible rfl | rw [x57] | rfl)

/- spec.l02Numbers -/
theorem c_spec_l02Numbers (kind : Int) (nums : Value) (L_nums : List Nat) (w : World) (hv_nums : Sl RF 1 w nums L_nums) : Gives Try.prog 81 #[(Iv kind), nums] w (fun v w' => v = (Bo (nodeNums kind L_nums))) := by
  have hlen_nums := Sl.len hv_nums; obtain ⟨p_nums, q_nums, rfl⟩ := Sl.shape hv_nums
  refine enter [(Iv kind), (.slice p_nums L_nums.length q_nums), Ud, Ud, Ud, Ud, Ud, Ud, Ud, Ud, Ud, Ud, Ud, Ud, Ud, Ud, Ud, Ud, Ud, Ud, Ud, Ud, Ud, Ud, Ud, Ud, Ud, Ud, Ud, Ud, Ud, Ud, Ud, Ud, Ud, Ud, Ud, Ud, Ud, Ud, Ud, Ud, Ud, Ud, Ud] Try.func81 rfl Try.ntmps81 rfl ?_
  refine wp_seq_k fun K1 hK1 => ?_
  refine wp_region_lit ?_
  refine q_is rfl rfl (does_assign (u := (Bo false)) (ev rfl)) (by dsimp only [List.set]; try rfl) ?_
  refine wpList_nil (hK1 _ _ ?_)
  refine wp_seq_k fun K2 hK2 => ?_
  refine wp_seq_k fun K3 hK3 => ?_
  refine wp_region_lit ?_
  refine q_is rfl rfl (does_move (u := (.slice p_nums L_nums.length q_nums)) (ev rfl)) (by dsimp only [List.set]; try rfl) ?_
  refine q_is rfl rfl (does_len_slice Try.underlying97 (ev rfl)) (by dsimp only [List.set]; try rfl) ?_
  refine q_is rfl rfl (does_move (u := (Iv kind)) (ev rfl)) (by dsimp only [List.set]; try rfl) ?_
  refine seqd rfl rfl (does_call (args := #[(Iv kind)]) cal101 (evs rfl) (c_spec_l02Count kind _)) ?_; rintro _ w5 ⟨E4, rfl⟩
  have X6 := Ext.gr (Ext.refl w) E4
  show wpList _ _ _ _ (fr [_, _, _, _, _, _, _, _, _, _, _, _, _, _, _, _, _, _, _, _, _, _, _, _, _, _, _, _, _, _, _, _, _, _, _, _, _, _, _, _, _, _, _, _, _]) _
  refine q_is rfl rfl (does_icmp (p := (L_nums.length : Int)) (q := rlNum kind) (.inr (.inl rfl)) (ev rfl) (ev rfl)) (by dsimp only [List.set]; try rfl) ?_
  refine wpList_nil (hK3 _ _ ?_)
  refine wp_cond_split (t := icmp .neq (L_nums.length : Int) (rlNum kind)) (ev rfl) (fun c7 => ?_) (fun c7 => ?_)
  · have c7' := c7
    (try simp only [icmp, Bool.and_eq_true, Bool.or_eq_true, Bool.and_eq_false_iff, Bool.or_eq_false_iff, Bool.not_eq_true', Bool.not_eq_false', decide_eq_true_eq, decide_eq_false_iff_not, beq_iff_eq, bne_iff_ne, beq_eq_false_iff_ne, bne_eq_false_iff_eq] at c7')
    refine wp_seq_k fun K8 hK8 => ?_
    refine wp_region_lit ?_
    refine q_is rfl rfl (does_assign (u := (Bo false)) (ev rfl)) (by dsimp only [List.set]; try rfl) ?_
    refine wpList_nil (hK8 _ _ ?_)
    refine wp_ret ?_
    dsimp only [Exit.then, Exit.inBlock]
    refine ret_val (v := (Bo false)) (res_T rfl (slot rfl)) X6 ?_
    have x9 : (nodeNums kind L_nums) = false := by first | exact nodeNums_len (by omega) | exact nodeNums_bad (by assumption) (by simp_all [numOk, rlSg, inI, icmp, lssF, leqF]) | exact nodeNums_ok (by omega) hal (by omega)
    exact (by first | with_reducible rfl | rw [x9] | rfl)
  have c7' := c7
  (try simp only [icmp, Bool.and_eq_true, Bool.or_eq_true, Bool.and_eq_false_iff, Bool.or_eq_false_iff, Bool.not_eq_true', Bool.not_eq_false', decide_eq_true_eq, decide_eq_false_iff_not, beq_iff_eq, bne_iff_ne, beq_eq_false_iff_ne, bne_eq_false_iff_eq] at c7')
  refine wp_skip (hK2 _ _ ?_)
  refine wp_seq_k fun K10 hK10 => ?_
  refine wp_seq_k fun K11 hK11 => ?_
  refine wp_region_lit ?_
  refine q_is rfl rfl (does_assign (u := (Iv 0)) (ev rfl)) (by dsimp only [List.set]; try rfl) ?_
  refine wpList_nil (hK11 _ _ ?_)
  refine wp_block ?_
  refine loop_ghost (σ := Nat) (fun k a w' => ∃ u12 : Nat → Value, a = fr [(Iv kind), (.slice p_nums L_nums.length q_nums), Ud, Ud, (u12 4), (Iv (k : Int)), (.slice p_nums L_nums.length q_nums), (Iv (L_nums.length : Int)), (Iv kind), (Iv (rlNum kind)), (Bo (icmp .neq (L_nums.length : Int) (rlNum kind))), (u12 11), (u12 12), (u12 13), (u12 14), (u12 15), (u12 16), (u12 17), (u12 18), (u12 19), (u12 20), (u12 21), (u12 22), (u12 23), (u12 24), (u12 25), (u12 26), (u12 27), (u12 28), (u12 29), (u12 30), (u12 31), (u12 32), (u12 33), (u12 34), (u12 35), (u12 36), (u12 37), (u12 38), (u12 39), (u12 40), (u12 41), (u12 42), (u12 43), (u12 44)] ∧ Ext w5 w' ∧ (k ≤ L_nums.length ∧ AllTo (numOk kind) L_nums k)) (fun k => L_nums.length - k) 0 ?_ ?_
  · refine ⟨fun t => (([(Iv kind), (.slice p_nums L_nums.length q_nums), Ud, Ud, (Bo false), (Iv 0), (.slice p_nums L_nums.length q_nums), (Iv (L_nums.length : Int)), (Iv kind), (Iv (rlNum kind)), (Bo (icmp .neq (L_nums.length : Int) (rlNum kind))), Ud, Ud, Ud, Ud, Ud, Ud, Ud, Ud, Ud, Ud, Ud, Ud, Ud, Ud, Ud, Ud, Ud, Ud, Ud, Ud, Ud, Ud, Ud, Ud, Ud, Ud, Ud, Ud, Ud, Ud, Ud, Ud, Ud, Ud] : List Value)[t]?).getD undef, rfl, Ext.refl _, ?_⟩
    exact ⟨Nat.zero_le _, AllTo.zero⟩
  · rintro k a w13 ⟨u12, rfl, E14, ⟨hk, hal⟩⟩
    have X16 := Ext.gr X6 E14
    refine wp_seq_k fun K17 hK17 => ?_
    refine wp_seq_k fun K18 hK18 => ?_
    refine wp_region_lit ?_
    refine q_is rfl rfl (does_move (u := (Iv (k : Int))) (ev rfl)) (by dsimp only [List.set]; try rfl) ?_
    refine q_is rfl rfl (does_move (u := (.slice p_nums L_nums.length q_nums)) (ev rfl)) (by dsimp only [List.set]; try rfl) ?_
    refine q_is rfl rfl (does_len_slice Try.underlying97 (ev rfl)) (by dsimp only [List.set]; try rfl) ?_
    refine q_is rfl rfl (does_icmp (p := (k : Int)) (q := (L_nums.length : Int)) (.inr (.inr (.inl rfl))) (ev rfl) (ev rfl)) (by dsimp only [List.set]; try rfl) ?_
    refine wpList_nil (hK18 _ _ ?_)
    refine wp_cond_split (t := icmp .lss (k : Int) (L_nums.length : Int)) (ev rfl) (fun c19 => ?_) (fun c19 => ?_)
    · have c19' := c19
      (try simp only [icmp, Bool.and_eq_true, Bool.or_eq_true, Bool.and_eq_false_iff, Bool.or_eq_false_iff, Bool.not_eq_true', Bool.not_eq_false', decide_eq_true_eq, decide_eq_false_iff_not, beq_iff_eq, bne_iff_ne, beq_eq_false_iff_ne, bne_eq_false_iff_eq] at c19')
      refine wp_skip (hK17 _ _ ?_)
      refine wp_seq_k fun K20 hK20 => ?_
      refine wp_block ?_
      refine wp_seq_k fun K21 hK21 => ?_
      refine wp_seq_k fun K22 hK22 => ?_
      refine wp_region_lit ?_
      refine q_is rfl rfl (does_move (u := (.slice p_nums L_nums.length q_nums)) (ev rfl)) (by dsimp only [List.set]; try rfl) ?_
      refine q_is rfl rfl (does_move (u := (Iv (k : Int))) (ev rfl)) (by dsimp only [List.set]; try rfl) ?_
      obtain ⟨el1, hel1⟩ : ∃ e, L_nums[k]? = some e := ⟨_, List.getElem?_eq_getElem (by omega)⟩
      refine seqd rfl rfl (does_indexSl (R := RF) (i := (k : Int)) (xs := L_nums) (e := el1) Try.underlying97 Try.sizeOf38 (ev rfl) (ev rfl) (Sl.ext hv_nums RF.mono X16) (by omega) hel1) ?_; rintro _ w13 ⟨b23, o24, _, rfl, hc26, ⟨r27, rfl, h28⟩, rfl⟩
      show wpList _ _ _ _ (fr [_, _, _, _, _, _, _, _, _, _, _, _, _, _, _, _, _, _, _, _, _, _, _, _, _, _, _, _, _, _, _, _, _, _, _, _, _, _, _, _, _, _, _, _, _]) _
      refine q_is rfl rfl (does_load (u := (Fl r27)) (ev rfl) Try.isAgg38 (Cells.at hc26 0 rfl)) (by dsimp only [List.set]; try rfl) ?_
      refine seqd rfl rfl (does_call (args := #[(Fl r27)]) cal96 (evs rfl) (c_spec_l01Finite r27 _)) ?_; rintro _ w30 ⟨E29, rfl⟩
      have X31 := Ext.gr X16 E29
      show wpList _ _ _ _ (fr [_, _, _, _, _, _, _, _, _, _, _, _, _, _, _, _, _, _, _, _, _, _, _, _, _, _, _, _, _, _, _, _, _, _, _, _, _, _, _, _, _, _, _, _, _]) _
      refine q_is rfl rfl (does_not (ev rfl)) (by dsimp only [List.set]; try rfl) ?_
      refine wpList_nil (hK22 _ _ ?_)
      refine wp_cond_split (t := !(finF (cf .f32 r27))) (ev rfl) (fun c32 => ?_) (fun c32 => ?_)
      · rw [Bool.not_eq_true'] at c32
        have c32' := c32
        refine wp_seq_k fun K33 hK33 => ?_
        refine wp_region_lit ?_
        refine q_is rfl rfl (does_assign (u := (Bo false)) (ev rfl)) (by dsimp only [List.set]; try rfl) ?_
        refine wpList_nil (hK33 _ _ ?_)
        refine wp_ret ?_
        dsimp only [Exit.then, Exit.inBlock]
        refine ret_val (v := (Bo false)) (res_T rfl (slot rfl)) X31 ?_
        try simp only [hel1, h28] at c7 c19 c32
        have x34 : (nodeNums kind L_nums) = false := by first | exact nodeNums_len (by omega) | exact nodeNums_bad (by assumption) (by simp_all [numOk, rlSg, inI, icmp, lssF, leqF]) | exact nodeNums_ok (by omega) hal (by omega)
        exact (by first | with_reducible rfl | rw [x34] | rfl)
      rw [Bool.not_eq_false'] at c32
      have c32' := c32
      refine wp_skip (hK21 _ _ ?_)
      refine wp_seq_k fun K35 hK35 => ?_
      refine wp_region_lit ?_
      refine q_is rfl rfl (does_move (u := (Iv kind)) (ev rfl)) (by dsimp only [List.set]; try rfl) ?_
      refine wpList_nil (hK35 _ _ ?_)
      refine wp_block ?_
      refine wp_seq_k fun K36 hK36 => ?_
      refine wp_seq_k fun K37 hK37 => ?_
      refine wp_region_lit ?_
      refine q_is rfl rfl (does_icmp (p := kind) (q := 0) (.inl rfl) (ev rfl) (ev rfl)) (by dsimp only [List.set]; try rfl) ?_
      refine q_is rfl rfl (does_assign (u := (Bo (icmp .eql kind 0))) (ev rfl)) (by dsimp only [List.set]; try rfl) ?_
      refine wpList_nil (hK37 _ _ ?_)
      refine wp_cond_split (t := icmp .eql kind 0) (ev rfl) (fun c38 => ?_) (fun c38 => ?_)
      · have c38' := c38
        (try simp only [icmp, Bool.and_eq_true, Bool.or_eq_true, Bool.and_eq_false_iff, Bool.or_eq_false_iff, Bool.not_eq_true', Bool.not_eq_false', decide_eq_true_eq, decide_eq_false_iff_not, beq_iff_eq, bne_iff_ne, beq_eq_false_iff_ne, bne_eq_false_iff_eq] at c38')
        refine wp_skip (hK36 _ _ ?_)
        refine wp_cond_true ((ev (rfl : evl _ _ = .bool (icmp .eql kind 0))).trans (congrArg Value.bool c38)) ?_
        refine wp_seq_k fun K39 hK39 => ?_
        refine wp_region_lit ?_
        refine q_is rfl rfl (does_move (u := (.slice p_nums L_nums.length q_nums)) (ev rfl)) (by dsimp only [List.set]; try rfl) ?_
        refine q_is rfl rfl (does_move (u := (Iv (k : Int))) (ev rfl)) (by dsimp only [List.set]; try rfl) ?_
        refine seqd rfl rfl (does_indexSl (R := RF) (i := (k : Int)) (xs := L_nums) (e := el1) Try.underlying97 Try.sizeOf38 (ev rfl) (ev rfl) (Sl.ext hv_nums RF.mono X31) (by omega) hel1) ?_; rintro _ w30 ⟨b40, o41, _, rfl, hc43, ⟨r44, rfl, h45⟩, rfl⟩
        show wpList _ _ _ _ (fr [_, _, _, _, _, _, _, _, _, _, _, _, _, _, _, _, _, _, _, _, _, _, _, _, _, _, _, _, _, _, _, _, _, _, _, _, _, _, _, _, _, _, _, _, _]) _
        refine q_is rfl rfl (does_load (u := (Fl r44)) (ev rfl) Try.isAgg38 (Cells.at hc43 0 rfl)) (by dsimp only [List.set]; try rfl) ?_
        refine q_is rfl rfl (does_fcmp (.inr (.inr (.inl rfl))) (ev rfl) (ev rfl)) (by dsimp only [List.set]; try rfl) ?_
        refine wpList_nil (hK39 _ _ ?_)
        refine wp_cond_split (t := fcmp .lss (ford .f32 (cf .f32 r44) (cf .f32 0))) (ev rfl) (fun c46 => ?_) (fun c46 => ?_)
        · have c46' := c46
          refine wp_seq_k fun K47 hK47 => ?_
          refine wp_region_lit ?_
          refine q_is rfl rfl (does_assign (u := (Bo false)) (ev rfl)) (by dsimp only [List.set]; try rfl) ?_
          refine wpList_nil (hK47 _ _ ?_)
          refine wp_ret ?_
          dsimp only [Exit.then, Exit.inBlock]
          refine ret_val (v := (Bo false)) (res_T rfl (slot rfl)) X31 ?_
          try simp only [hel1, h28, h45] at c7 c19 c32 c38 c46
          have x48 : (nodeNums kind L_nums) = false := by first | exact nodeNums_len (by omega) | exact nodeNums_bad (by assumption) (by simp_all [numOk, rlSg, inI, icmp, lssF, leqF]) | exact nodeNums_ok (by omega) hal (by omega)
          exact (by first | with_reducible rfl | rw [x48] | rfl)
        have c46' := c46
        refine wp_skip (hK20 _ _ ?_)
        refine wp_region_lit ?_
        refine q_is rfl rfl (does_move (u := (Iv (k : Int))) (ev rfl)) (by dsimp only [List.set]; try rfl) ?_
        refine q_is rfl rfl (does_iarith (p := (k : Int)) (q := 1) (r := (k : Int) + 1) (ev rfl) (ev rfl) (.inl ⟨rfl, (in_i64 (by omega) (by omega)).symm⟩)) (by dsimp only [List.set]; try rfl) ?_
        refine q_is rfl rfl (does_assign (u := (Iv ((k : Int) + 1))) (ev rfl)) (by dsimp only [List.set]; try rfl) ?_
        refine wpList_nil ?_
        refine ⟨k + 1, ⟨fun t => (([(Iv kind), (.slice p_nums L_nums.length q_nums), Ud, Ud, (u12 4), (Iv ((k : Int) + 1)), (.slice p_nums L_nums.length q_nums), (Iv (L_nums.length : Int)), (Iv kind), (Iv (rlNum kind)), (Bo (icmp .neq (L_nums.length : Int) (rlNum kind))), (Iv (k : Int)), (.slice p_nums L_nums.length q_nums), (Iv (L_nums.length : Int)), (Bo (icmp .lss (k : Int) (L_nums.length : Int))), (Iv (k : Int)), (Iv ((k : Int) + 1)), (.slice p_nums L_nums.length q_nums), (Iv (k : Int)), (Pt b23 o24), (Fl r27), (Bo (finF (cf .f32 r27))), (Bo (!(finF (cf .f32 r27)))), (Iv kind), (Bo (icmp .eql kind 0)), (Bo (icmp .eql kind 0)), (u12 26), (u12 27), (u12 28), (u12 29), (.slice p_nums L_nums.length q_nums), (Iv (k : Int)), (Pt b40 o41), (Fl r44), (Bo (fcmp .lss (ford .f32 (cf .f32 r44) (cf .f32 0)))), (u12 35), (u12 36), (u12 37), (u12 38), (u12 39), (u12 40), (u12 41), (u12 42), (u12 43), (u12 44)] : List Value)[t]?).getD undef, ?_, (Ext.gr E14 E29), ?_⟩, ?_⟩
        · first | rfl | (simp only [Int.natCast_add, Int.natCast_one]; rfl)
        · exact ⟨by omega, AllTo.step hal (by assumption) (by simp_all [numOk, rlSg, inI, icmp, lssF, leqF])⟩
        · omega
      have c38' := c38
      (try simp only [icmp, Bool.and_eq_true, Bool.or_eq_true, Bool.and_eq_false_iff, Bool.or_eq_false_iff, Bool.not_eq_true', Bool.not_eq_false', decide_eq_true_eq, decide_eq_false_iff_not, beq_iff_eq, bne_iff_ne, beq_eq_false_iff_ne, bne_eq_false_iff_eq] at c38')
      refine wp_seq_k fun K49 hK49 => ?_
      refine wp_region_lit ?_
      refine q_is rfl rfl (does_icmp (p := kind) (q := 1) (.inl rfl) (ev rfl) (ev rfl)) (by dsimp only [List.set]; try rfl) ?_
      refine q_is rfl rfl (does_assign (u := (Bo (icmp .eql kind 1))) (ev rfl)) (by dsimp only [List.set]; try rfl) ?_
      refine wpList_nil (hK49 _ _ ?_)
      refine wp_cond_split (t := icmp .eql kind 1) (ev rfl) (fun c50 => ?_) (fun c50 => ?_)
      · have c50' := c50
        (try simp only [icmp, Bool.and_eq_true, Bool.or_eq_true, Bool.and_eq_false_iff, Bool.or_eq_false_iff, Bool.not_eq_true', Bool.not_eq_false', decide_eq_true_eq, decide_eq_false_iff_not, beq_iff_eq, bne_iff_ne, beq_eq_false_iff_ne, bne_eq_false_iff_eq] at c50')
        refine wp_skip (hK36 _ _ ?_)
        refine wp_cond_true ((ev (rfl : evl _ _ = .bool (icmp .eql kind 1))).trans (congrArg Value.bool c50)) ?_
        refine wp_seq_k fun K51 hK51 => ?_
        refine wp_region_lit ?_
        refine q_is rfl rfl (does_move (u := (.slice p_nums L_nums.length q_nums)) (ev rfl)) (by dsimp only [List.set]; try rfl) ?_
        refine q_is rfl rfl (does_move (u := (Iv (k : Int))) (ev rfl)) (by dsimp only [List.set]; try rfl) ?_
        refine seqd rfl rfl (does_indexSl (R := RF) (i := (k : Int)) (xs := L_nums) (e := el1) Try.underlying97 Try.sizeOf38 (ev rfl) (ev rfl) (Sl.ext hv_nums RF.mono X31) (by omega) hel1) ?_; rintro _ w30 ⟨b52, o53, _, rfl, hc55, ⟨r56, rfl, h57⟩, rfl⟩
        show wpList _ _ _ _ (fr [_, _, _, _, _, _, _, _, _, _, _, _, _, _, _, _, _, _, _, _, _, _, _, _, _, _, _, _, _, _, _, _, _, _, _, _, _, _, _, _, _, _, _, _, _]) _
        refine q_is rfl rfl (does_load (u := (Fl r56)) (ev rfl) Try.isAgg38 (Cells.at hc55 0 rfl)) (by dsimp only [List.set]; try rfl) ?_
        refine q_is rfl rfl (does_fcmp (.inr (.inr (.inl rfl))) (ev rfl) (ev rfl)) (by dsimp only [List.set]; try rfl) ?_
        refine wpList_nil (hK51 _ _ ?_)
        refine wp_cond_split (t := fcmp .lss (ford .f32 (cf .f32 r56) (cf .f32 0))) (ev rfl) (fun c58 => ?_) (fun c58 => ?_)
        · have c58' := c58
          refine wp_seq_k fun K59 hK59 => ?_
          refine wp_region_lit ?_
          refine q_is rfl rfl (does_assign (u := (Bo false)) (ev rfl)) (by dsimp only [List.set]; try rfl) ?_
          refine wpList_nil (hK59 _ _ ?_)
          refine wp_ret ?_
          dsimp only [Exit.then, Exit.inBlock]
          refine ret_val (v := (Bo false)) (res_T rfl (slot rfl)) X31 ?_
          try simp only [hel1, h28, h57] at c7 c19 c32 c38 c50 c58
          have x60 : (nodeNums kind L_nums) = false := by first | exact nodeNums_len (by omega) | exact nodeNums_bad (by assumption) (by simp_all [numOk, rlSg, inI, icmp, lssF, leqF]) | exact nodeNums_ok (by omega) hal (by omega)
          exact (by first | with_reducible rfl | rw [x60] | rfl)
        have c58' := c58
        refine wp_skip (hK20 _ _ ?_)
        refine wp_region_lit ?_
        refine q_is rfl rfl (does_move (u := (Iv (k : Int))) (ev rfl)) (by dsimp only [List.set]; try rfl) ?_
        refine q_is rfl rfl (does_iarith (p := (k : Int)) (q := 1) (r := (k : Int) + 1) (ev rfl) (ev rfl) (.inl ⟨rfl, (in_i64 (by omega) (by omega)).symm⟩)) (by dsimp only [List.set]; try rfl) ?_
        refine q_is rfl rfl (does_assign (u := (Iv ((k : Int) + 1))) (ev rfl)) (by dsimp only [List.set]; try rfl) ?_
        refine wpList_nil ?_
        refine ⟨k + 1, ⟨fun t => (([(Iv kind), (.slice p_nums L_nums.length q_nums), Ud, Ud, (u12 4), (Iv ((k : Int) + 1)), (.slice p_nums L_nums.length q_nums), (Iv (L_nums.length : Int)), (Iv kind), (Iv (rlNum kind)), (Bo (icmp .neq (L_nums.length : Int) (rlNum kind))), (Iv (k : Int)), (.slice p_nums L_nums.length q_nums), (Iv (L_nums.length : Int)), (Bo (icmp .lss (k : Int) (L_nums.length : Int))), (Iv (k : Int)), (Iv ((k : Int) + 1)), (.slice p_nums L_nums.length q_nums), (Iv (k : Int)), (Pt b23 o24), (Fl r27), (Bo (finF (cf .f32 r27))), (Bo (!(finF (cf .f32 r27)))), (Iv kind), (Bo (icmp .eql kind 1)), (Bo (icmp .eql kind 0)), (Bo (icmp .eql kind 1)), (u12 27), (u12 28), (u12 29), (.slice p_nums L_nums.length q_nums), (Iv (k : Int)), (Pt b52 o53), (Fl r56), (Bo (fcmp .lss (ford .f32 (cf .f32 r56) (cf .f32 0)))), (u12 35), (u12 36), (u12 37), (u12 38), (u12 39), (u12 40), (u12 41), (u12 42), (u12 43), (u12 44)] : List Value)[t]?).getD undef, ?_, (Ext.gr E14 E29), ?_⟩, ?_⟩
        · first | rfl | (simp only [Int.natCast_add, Int.natCast_one]; rfl)
        · exact ⟨by omega, AllTo.step hal (by assumption) (by simp_all [numOk, rlSg, inI, icmp, lssF, leqF])⟩
        · omega
      have c50' := c50
      (try simp only [icmp, Bool.and_eq_true, Bool.or_eq_true, Bool.and_eq_false_iff, Bool.or_eq_false_iff, Bool.not_eq_true', Bool.not_eq_false', decide_eq_true_eq, decide_eq_false_iff_not, beq_iff_eq, bne_iff_ne, beq_eq_false_iff_ne, bne_eq_false_iff_eq] at c50')
      refine wp_seq_k fun K61 hK61 => ?_
      refine wp_region_lit ?_
      refine q_is rfl rfl (does_icmp (p := kind) (q := 2) (.inl rfl) (ev rfl) (ev rfl)) (by dsimp only [List.set]; try rfl) ?_
      refine q_is rfl rfl (does_assign (u := (Bo (icmp .eql kind 2))) (ev rfl)) (by dsimp only [List.set]; try rfl) ?_
      refine wpList_nil (hK61 _ _ ?_)
      refine wp_cond_split (t := icmp .eql kind 2) (ev rfl) (fun c62 => ?_) (fun c62 => ?_)
      · have c62' := c62
        (try simp only [icmp, Bool.and_eq_true, Bool.or_eq_true, Bool.and_eq_false_iff, Bool.or_eq_false_iff, Bool.not_eq_true', Bool.not_eq_false', decide_eq_true_eq, decide_eq_false_iff_not, beq_iff_eq, bne_iff_ne, beq_eq_false_iff_ne, bne_eq_false_iff_eq] at c62')
        refine wp_skip (hK36 _ _ ?_)
        refine wp_cond_true ((ev (rfl : evl _ _ = .bool (icmp .eql kind 2))).trans (congrArg Value.bool c62)) ?_
        refine wp_seq_k fun K63 hK63 => ?_
        refine wp_region_lit ?_
        refine q_is rfl rfl (does_move (u := (.slice p_nums L_nums.length q_nums)) (ev rfl)) (by dsimp only [List.set]; try rfl) ?_
        refine q_is rfl rfl (does_move (u := (Iv (k : Int))) (ev rfl)) (by dsimp only [List.set]; try rfl) ?_
        refine seqd rfl rfl (does_indexSl (R := RF) (i := (k : Int)) (xs := L_nums) (e := el1) Try.underlying97 Try.sizeOf38 (ev rfl) (ev rfl) (Sl.ext hv_nums RF.mono X31) (by omega) hel1) ?_; rintro _ w30 ⟨b64, o65, _, rfl, hc67, ⟨r68, rfl, h69⟩, rfl⟩
        show wpList _ _ _ _ (fr [_, _, _, _, _, _, _, _, _, _, _, _, _, _, _, _, _, _, _, _, _, _, _, _, _, _, _, _, _, _, _, _, _, _, _, _, _, _, _, _, _, _, _, _, _]) _
        refine q_is rfl rfl (does_load (u := (Fl r68)) (ev rfl) Try.isAgg38 (Cells.at hc67 0 rfl)) (by dsimp only [List.set]; try rfl) ?_
        refine q_is rfl rfl (does_fcmp (.inr (.inr (.inl rfl))) (ev rfl) (ev rfl)) (by dsimp only [List.set]; try rfl) ?_
        refine wpList_nil (hK63 _ _ ?_)
        refine wp_cond_split (t := fcmp .lss (ford .f32 (cf .f32 r68) (cf .f32 0))) (ev rfl) (fun c70 => ?_) (fun c70 => ?_)
        · have c70' := c70
          refine wp_seq_k fun K71 hK71 => ?_
          refine wp_region_lit ?_
          refine q_is rfl rfl (does_assign (u := (Bo false)) (ev rfl)) (by dsimp only [List.set]; try rfl) ?_
          refine wpList_nil (hK71 _ _ ?_)
          refine wp_ret ?_
          dsimp only [Exit.then, Exit.inBlock]
          refine ret_val (v := (Bo false)) (res_T rfl (slot rfl)) X31 ?_
          try simp only [hel1, h28, h69] at c7 c19 c32 c38 c50 c62 c70
          have x72 : (nodeNums kind L_nums) = false := by first | exact nodeNums_len (by omega) | exact nodeNums_bad (by assumption) (by simp_all [numOk, rlSg, inI, icmp, lssF, leqF]) | exact nodeNums_ok (by omega) hal (by omega)
          exact (by first | with_reducible rfl | rw [x72] | rfl)
        have c70' := c70
        refine wp_skip (hK20 _ _ ?_)
        refine wp_region_lit ?_
        refine q_is rfl rfl (does_move (u := (Iv (k : Int))) (ev rfl)) (by dsimp only [List.set]; try rfl) ?_
        refine q_is rfl rfl (does_iarith (p := (k : Int)) (q := 1) (r := (k : Int) + 1) (ev rfl) (ev rfl) (.inl ⟨rfl, (in_i64 (by omega) (by omega)).symm⟩)) (by dsimp only [List.set]; try rfl) ?_
        refine q_is rfl rfl (does_assign (u := (Iv ((k : Int) + 1))) (ev rfl)) (by dsimp only [List.set]; try rfl) ?_
        refine wpList_nil ?_
        refine ⟨k + 1, ⟨fun t => (([(Iv kind), (.slice p_nums L_nums.length q_nums), Ud, Ud, (u12 4), (Iv ((k : Int) + 1)), (.slice p_nums L_nums.length q_nums), (Iv (L_nums.length : Int)), (Iv kind), (Iv (rlNum kind)), (Bo (icmp .neq (L_nums.length : Int) (rlNum kind))), (Iv (k : Int)), (.slice p_nums L_nums.length q_nums), (Iv (L_nums.length : Int)), (Bo (icmp .lss (k : Int) (L_nums.length : Int))), (Iv (k : Int)), (Iv ((k : Int) + 1)), (.slice p_nums L_nums.length q_nums), (Iv (k : Int)), (Pt b23 o24), (Fl r27), (Bo (finF (cf .f32 r27))), (Bo (!(finF (cf .f32 r27)))), (Iv kind), (Bo (icmp .eql kind 2)), (Bo (icmp .eql kind 0)), (Bo (icmp .eql kind 1)), (Bo (icmp .eql kind 2)), (u12 28), (u12 29), (.slice p_nums L_nums.length q_nums), (Iv (k : Int)), (Pt b64 o65), (Fl r68), (Bo (fcmp .lss (ford .f32 (cf .f32 r68) (cf .f32 0)))), (u12 35), (u12 36), (u12 37), (u12 38), (u12 39), (u12 40), (u12 41), (u12 42), (u12 43), (u12 44)] : List Value)[t]?).getD undef, ?_, (Ext.gr E14 E29), ?_⟩, ?_⟩
        · first | rfl | (simp only [Int.natCast_add, Int.natCast_one]; rfl)
        · exact ⟨by omega, AllTo.step hal (by assumption) (by simp_all [numOk, rlSg, inI, icmp, lssF, leqF])⟩
        · omega
      have c62' := c62
      (try simp only [icmp, Bool.and_eq_true, Bool.or_eq_true, Bool.and_eq_false_iff, Bool.or_eq_false_iff, Bool.not_eq_true', Bool.not_eq_false', decide_eq_true_eq, decide_eq_false_iff_not, beq_iff_eq, bne_iff_ne, beq_eq_false_iff_ne, bne_eq_false_iff_eq] at c62')
      refine wp_seq_k fun K73 hK73 => ?_
      refine wp_region_lit ?_
      refine q_is rfl rfl (does_icmp (p := kind) (q := 3) (.inl rfl) (ev rfl) (ev rfl)) (by dsimp only [List.set]; try rfl) ?_
      refine q_is rfl rfl (does_assign (u := (Bo (icmp .eql kind 3))) (ev rfl)) (by dsimp only [List.set]; try rfl) ?_
      refine wpList_nil (hK73 _ _ ?_)
      refine wp_cond_split (t := icmp .eql kind 3) (ev rfl) (fun c74 => ?_) (fun c74 => ?_)
      · have c74' := c74
        (try simp only [icmp, Bool.and_eq_true, Bool.or_eq_true, Bool.and_eq_false_iff, Bool.or_eq_false_iff, Bool.not_eq_true', Bool.not_eq_false', decide_eq_true_eq, decide_eq_false_iff_not, beq_iff_eq, bne_iff_ne, beq_eq_false_iff_ne, bne_eq_false_iff_eq] at c74')
        refine wp_skip (hK36 _ _ ?_)
        refine wp_cond_true ((ev (rfl : evl _ _ = .bool (icmp .eql kind 3))).trans (congrArg Value.bool c74)) ?_
        refine wp_seq_k fun K75 hK75 => ?_
        refine wp_region_lit ?_
        refine q_is rfl rfl (does_move (u := (.slice p_nums L_nums.length q_nums)) (ev rfl)) (by dsimp only [List.set]; try rfl) ?_
        refine q_is rfl rfl (does_move (u := (Iv (k : Int))) (ev rfl)) (by dsimp only [List.set]; try rfl) ?_
        refine seqd rfl rfl (does_indexSl (R := RF) (i := (k : Int)) (xs := L_nums) (e := el1) Try.underlying97 Try.sizeOf38 (ev rfl) (ev rfl) (Sl.ext hv_nums RF.mono X31) (by omega) hel1) ?_; rintro _ w30 ⟨b76, o77, _, rfl, hc79, ⟨r80, rfl, h81⟩, rfl⟩
        show wpList _ _ _ _ (fr [_, _, _, _, _, _, _, _, _, _, _, _, _, _, _, _, _, _, _, _, _, _, _, _, _, _, _, _, _, _, _, _, _, _, _, _, _, _, _, _, _, _, _, _, _]) _
        refine q_is rfl rfl (does_load (u := (Fl r80)) (ev rfl) Try.isAgg38 (Cells.at hc79 0 rfl)) (by dsimp only [List.set]; try rfl) ?_
        refine q_is rfl rfl (does_fcmp (.inr (.inr (.inl rfl))) (ev rfl) (ev rfl)) (by dsimp only [List.set]; try rfl) ?_
        refine wpList_nil (hK75 _ _ ?_)
        refine wp_cond_split (t := fcmp .lss (ford .f32 (cf .f32 r80) (cf .f32 0))) (ev rfl) (fun c82 => ?_) (fun c82 => ?_)
        · have c82' := c82
          refine wp_seq_k fun K83 hK83 => ?_
          refine wp_region_lit ?_
          refine q_is rfl rfl (does_assign (u := (Bo false)) (ev rfl)) (by dsimp only [List.set]; try rfl) ?_
          refine wpList_nil (hK83 _ _ ?_)
          refine wp_ret ?_
          dsimp only [Exit.then, Exit.inBlock]
          refine ret_val (v := (Bo false)) (res_T rfl (slot rfl)) X31 ?_
          try simp only [hel1, h28, h81] at c7 c19 c32 c38 c50 c62 c74 c82
          have x84 : (nodeNums kind L_nums) = false := by first | exact nodeNums_len (by omega) | exact nodeNums_bad (by assumption) (by simp_all [numOk, rlSg, inI, icmp, lssF, leqF]) | exact nodeNums_ok (by omega) hal (by omega)
          exact (by first | with_reducible rfl | rw [x84] | rfl)
        have c82' := c82
        refine wp_skip (hK20 _ _ ?_)
        refine wp_region_lit ?_
        refine q_is rfl rfl (does_move (u := (Iv (k : Int))) (ev rfl)) (by dsimp only [List.set]; try rfl) ?_
        refine q_is rfl rfl (does_iarith (p := (k : Int)) (q := 1) (r := (k : Int) + 1) (ev rfl) (ev rfl) (.inl ⟨rfl, (in_i64 (by omega) (by omega)).symm⟩)) (by dsimp only [List.set]; try rfl) ?_
        refine q_is rfl rfl (does_assign (u := (Iv ((k : Int) + 1))) (ev rfl)) (by dsimp only [List.set]; try rfl) ?_
        refine wpList_nil ?_
        refine ⟨k + 1, ⟨fun t => (([(Iv kind), (.slice p_nums L_nums.length q_nums), Ud, Ud, (u12 4), (Iv ((k : Int) + 1)), (.slice p_nums L_nums.length q_nums), (Iv (L_nums.length : Int)), (Iv kind), (Iv (rlNum kind)), (Bo (icmp .neq (L_nums.length : Int) (rlNum kind))), (Iv (k : Int)), (.slice p_nums L_nums.length q_nums), (Iv (L_nums.length : Int)), (Bo (icmp .lss (k : Int) (L_nums.length : Int))), (Iv (k : Int)), (Iv ((k : Int) + 1)), (.slice p_nums L_nums.length q_nums), (Iv (k : Int)), (Pt b23 o24), (Fl r27), (Bo (finF (cf .f32 r27))), (Bo (!(finF (cf .f32 r27)))), (Iv kind), (Bo (icmp .eql kind 3)), (Bo (icmp .eql kind 0)), (Bo (icmp .eql kind 1)), (Bo (icmp .eql kind 2)), (Bo (icmp .eql kind 3)), (u12 29), (.slice p_nums L_nums.length q_nums), (Iv (k : Int)), (Pt b76 o77), (Fl r80), (Bo (fcmp .lss (ford .f32 (cf .f32 r80) (cf .f32 0)))), (u12 35), (u12 36), (u12 37), (u12 38), (u12 39), (u12 40), (u12 41), (u12 42), (u12 43), (u12 44)] : List Value)[t]?).getD undef, ?_, (Ext.gr E14 E29), ?_⟩, ?_⟩
        · first | rfl | (simp only [Int.natCast_add, Int.natCast_one]; rfl)
        · exact ⟨by omega, AllTo.step hal (by assumption) (by simp_all [numOk, rlSg, inI, icmp, lssF, leqF])⟩
        · omega
      have c74' := c74
      (try simp only [icmp, Bool.and_eq_true, Bool.or_eq_true, Bool.and_eq_false_iff, Bool.or_eq_false_iff, Bool.not_eq_true', Bool.not_eq_false', decide_eq_true_eq, decide_eq_false_iff_not, beq_iff_eq, bne_iff_ne, beq_eq_false_iff_ne, bne_eq_false_iff_eq] at c74')
      refine wp_region_lit ?_
      refine q_is rfl rfl (does_icmp (p := kind) (q := 16) (.inl rfl) (ev rfl) (ev rfl)) (by dsimp only [List.set]; try rfl) ?_
      refine q_is rfl rfl (does_assign (u := (Bo (icmp .eql kind 16))) (ev rfl)) (by dsimp only [List.set]; try rfl) ?_
      refine wpList_nil (hK36 _ _ ?_)
      refine wp_cond_split (t := icmp .eql kind 16) (ev rfl) (fun c85 => ?_) (fun c85 => ?_)
      · have c85' := c85
        (try simp only [icmp, Bool.and_eq_true, Bool.or_eq_true, Bool.and_eq_false_iff, Bool.or_eq_false_iff, Bool.not_eq_true', Bool.not_eq_false', decide_eq_true_eq, decide_eq_false_iff_not, beq_iff_eq, bne_iff_ne, beq_eq_false_iff_ne, bne_eq_false_iff_eq] at c85')
        refine wp_seq_k fun K86 hK86 => ?_
        refine wp_region_lit ?_
        refine q_is rfl rfl (does_move (u := (.slice p_nums L_nums.length q_nums)) (ev rfl)) (by dsimp only [List.set]; try rfl) ?_
        refine q_is rfl rfl (does_move (u := (Iv (k : Int))) (ev rfl)) (by dsimp only [List.set]; try rfl) ?_
        refine seqd rfl rfl (does_indexSl (R := RF) (i := (k : Int)) (xs := L_nums) (e := el1) Try.underlying97 Try.sizeOf38 (ev rfl) (ev rfl) (Sl.ext hv_nums RF.mono X31) (by omega) hel1) ?_; rintro _ w30 ⟨b87, o88, _, rfl, hc90, ⟨r91, rfl, h92⟩, rfl⟩
        show wpList _ _ _ _ (fr [_, _, _, _, _, _, _, _, _, _, _, _, _, _, _, _, _, _, _, _, _, _, _, _, _, _, _, _, _, _, _, _, _, _, _, _, _, _, _, _, _, _, _, _, _]) _
        refine q_is rfl rfl (does_load (u := (Fl r91)) (ev rfl) Try.isAgg38 (Cells.at hc90 0 rfl)) (by dsimp only [List.set]; try rfl) ?_
        refine q_is rfl rfl (does_fcmp (.inr (.inr (.inl rfl))) (ev rfl) (ev rfl)) (by dsimp only [List.set]; try rfl) ?_
        refine wpList_nil (hK86 _ _ ?_)
        refine wp_cond_split (t := fcmp .lss (ford .f32 (cf .f32 r91) (cf .f32 0))) (ev rfl) (fun c93 => ?_) (fun c93 => ?_)
        · have c93' := c93
          refine wp_seq_k fun K94 hK94 => ?_
          refine wp_region_lit ?_
          refine q_is rfl rfl (does_assign (u := (Bo false)) (ev rfl)) (by dsimp only [List.set]; try rfl) ?_
          refine wpList_nil (hK94 _ _ ?_)
          refine wp_ret ?_
          dsimp only [Exit.then, Exit.inBlock]
          refine ret_val (v := (Bo false)) (res_T rfl (slot rfl)) X31 ?_
          try simp only [hel1, h28, h92] at c7 c19 c32 c38 c50 c62 c74 c85 c93
          have x95 : (nodeNums kind L_nums) = false := by first | exact nodeNums_len (by omega) | exact nodeNums_bad (by assumption) (by simp_all [numOk, rlSg, inI, icmp, lssF, leqF]) | exact nodeNums_ok (by omega) hal (by omega)
          exact (by first | with_reducible rfl | rw [x95] | rfl)
        have c93' := c93
        refine wp_skip (hK20 _ _ ?_)
        refine wp_region_lit ?_
        refine q_is rfl rfl (does_move (u := (Iv (k : Int))) (ev rfl)) (by dsimp only [List.set]; try rfl) ?_
        refine q_is rfl rfl (does_iarith (p := (k : Int)) (q := 1) (r := (k : Int) + 1) (ev rfl) (ev rfl) (.inl ⟨rfl, (in_i64 (by omega) (by omega)).symm⟩)) (by dsimp only [List.set]; try rfl) ?_
        refine q_is rfl rfl (does_assign (u := (Iv ((k : Int) + 1))) (ev rfl)) (by dsimp only [List.set]; try rfl) ?_
        refine wpList_nil ?_
        refine ⟨k + 1, ⟨fun t => (([(Iv kind), (.slice p_nums L_nums.length q_nums), Ud, Ud, (u12 4), (Iv ((k : Int) + 1)), (.slice p_nums L_nums.length q_nums), (Iv (L_nums.length : Int)), (Iv kind), (Iv (rlNum kind)), (Bo (icmp .neq (L_nums.length : Int) (rlNum kind))), (Iv (k : Int)), (.slice p_nums L_nums.length q_nums), (Iv (L_nums.length : Int)), (Bo (icmp .lss (k : Int) (L_nums.length : Int))), (Iv (k : Int)), (Iv ((k : Int) + 1)), (.slice p_nums L_nums.length q_nums), (Iv (k : Int)), (Pt b23 o24), (Fl r27), (Bo (finF (cf .f32 r27))), (Bo (!(finF (cf .f32 r27)))), (Iv kind), (Bo (icmp .eql kind 16)), (Bo (icmp .eql kind 0)), (Bo (icmp .eql kind 1)), (Bo (icmp .eql kind 2)), (Bo (icmp .eql kind 3)), (Bo (icmp .eql kind 16)), (.slice p_nums L_nums.length q_nums), (Iv (k : Int)), (Pt b87 o88), (Fl r91), (Bo (fcmp .lss (ford .f32 (cf .f32 r91) (cf .f32 0)))), (u12 35), (u12 36), (u12 37), (u12 38), (u12 39), (u12 40), (u12 41), (u12 42), (u12 43), (u12 44)] : List Value)[t]?).getD undef, ?_, (Ext.gr E14 E29), ?_⟩, ?_⟩
        · first | rfl | (simp only [Int.natCast_add, Int.natCast_one]; rfl)
        · exact ⟨by omega, AllTo.step hal (by assumption) (by simp_all [numOk, rlSg, inI, icmp, lssF, leqF])⟩
        · omega
      have c85' := c85
      (try simp only [icmp, Bool.and_eq_true, Bool.or_eq_true, Bool.and_eq_false_iff, Bool.or_eq_false_iff, Bool.not_eq_true', Bool.not_eq_false', decide_eq_true_eq, decide_eq_false_iff_not, beq_iff_eq, bne_iff_ne, beq_eq_false_iff_ne, bne_eq_false_iff_eq] at c85')
      refine wp_seq_k fun K96 hK96 => ?_
      refine wp_seq_k fun K97 hK97 => ?_
      refine wp_region_lit ?_
      refine q_is rfl rfl (does_icmp (p := kind) (q := 8) (.inl rfl) (ev rfl) (ev rfl)) (by dsimp only [List.set]; try rfl) ?_
      refine q_is rfl rfl (does_assign (u := (Bo (icmp .eql kind 8))) (ev rfl)) (by dsimp only [List.set]; try rfl) ?_
      refine wpList_nil (hK97 _ _ ?_)
      refine wp_cond_split (t := icmp .eql kind 8) (ev rfl) (fun c98 => ?_) (fun c98 => ?_)
      · have c98' := c98
        (try simp only [icmp, Bool.and_eq_true, Bool.or_eq_true, Bool.and_eq_false_iff, Bool.or_eq_false_iff, Bool.not_eq_true', Bool.not_eq_false', decide_eq_true_eq, decide_eq_false_iff_not, beq_iff_eq, bne_iff_ne, beq_eq_false_iff_ne, bne_eq_false_iff_eq] at c98')
        refine wp_skip (hK96 _ _ ?_)
        refine wp_cond_true ((ev (rfl : evl _ _ = .bool (icmp .eql kind 8))).trans (congrArg Value.bool c98)) ?_
        refine wp_seq_k fun K99 hK99 => ?_
        refine wp_region_lit ?_
        refine q_is rfl rfl (does_move (u := (.slice p_nums L_nums.length q_nums)) (ev rfl)) (by dsimp only [List.set]; try rfl) ?_
        refine q_is rfl rfl (does_move (u := (Iv (k : Int))) (ev rfl)) (by dsimp only [List.set]; try rfl) ?_
        refine seqd rfl rfl (does_indexSl (R := RF) (i := (k : Int)) (xs := L_nums) (e := el1) Try.underlying97 Try.sizeOf38 (ev rfl) (ev rfl) (Sl.ext hv_nums RF.mono X31) (by omega) hel1) ?_; rintro _ w30 ⟨b100, o101, _, rfl, hc103, ⟨r104, rfl, h105⟩, rfl⟩
        show wpList _ _ _ _ (fr [_, _, _, _, _, _, _, _, _, _, _, _, _, _, _, _, _, _, _, _, _, _, _, _, _, _, _, _, _, _, _, _, _, _, _, _, _, _, _, _, _, _, _, _, _]) _
        refine q_is rfl rfl (does_load (u := (Fl r104)) (ev rfl) Try.isAgg38 (Cells.at hc103 0 rfl)) (by dsimp only [List.set]; try rfl) ?_
        refine q_is rfl rfl (does_fcmp (.inr (.inr (.inr (.inl rfl)))) (ev rfl) (ev rfl)) (by dsimp only [List.set]; try rfl) ?_
        refine wpList_nil (hK99 _ _ ?_)
        refine wp_cond_split (t := fcmp .leq (ford .f32 (cf .f32 r104) (cf .f32 0))) (ev rfl) (fun c106 => ?_) (fun c106 => ?_)
        · have c106' := c106
          refine wp_seq_k fun K107 hK107 => ?_
          refine wp_region_lit ?_
          refine q_is rfl rfl (does_assign (u := (Bo false)) (ev rfl)) (by dsimp only [List.set]; try rfl) ?_
          refine wpList_nil (hK107 _ _ ?_)
          refine wp_ret ?_
          dsimp only [Exit.then, Exit.inBlock]
          refine ret_val (v := (Bo false)) (res_T rfl (slot rfl)) X31 ?_
          try simp only [hel1, h28, h105] at c7 c19 c32 c38 c50 c62 c74 c85 c98 c106
          have x108 : (nodeNums kind L_nums) = false := by first | exact nodeNums_len (by omega) | exact nodeNums_bad (by assumption) (by simp_all [numOk, rlSg, inI, icmp, lssF, leqF]) | exact nodeNums_ok (by omega) hal (by omega)
          exact (by first | with_reducible rfl | rw [x108] | rfl)
        have c106' := c106
        refine wp_skip (hK20 _ _ ?_)
        refine wp_region_lit ?_
        refine q_is rfl rfl (does_move (u := (Iv (k : Int))) (ev rfl)) (by dsimp only [List.set]; try rfl) ?_
        refine q_is rfl rfl (does_iarith (p := (k : Int)) (q := 1) (r := (k : Int) + 1) (ev rfl) (ev rfl) (.inl ⟨rfl, (in_i64 (by omega) (by omega)).symm⟩)) (by dsimp only [List.set]; try rfl) ?_
        refine q_is rfl rfl (does_assign (u := (Iv ((k : Int) + 1))) (ev rfl)) (by dsimp only [List.set]; try rfl) ?_
        refine wpList_nil ?_
        refine ⟨k + 1, ⟨fun t => (([(Iv kind), (.slice p_nums L_nums.length q_nums), Ud, Ud, (u12 4), (Iv ((k : Int) + 1)), (.slice p_nums L_nums.length q_nums), (Iv (L_nums.length : Int)), (Iv kind), (Iv (rlNum kind)), (Bo (icmp .neq (L_nums.length : Int) (rlNum kind))), (Iv (k : Int)), (.slice p_nums L_nums.length q_nums), (Iv (L_nums.length : Int)), (Bo (icmp .lss (k : Int) (L_nums.length : Int))), (Iv (k : Int)), (Iv ((k : Int) + 1)), (.slice p_nums L_nums.length q_nums), (Iv (k : Int)), (Pt b23 o24), (Fl r27), (Bo (finF (cf .f32 r27))), (Bo (!(finF (cf .f32 r27)))), (Iv kind), (Bo (icmp .eql kind 16)), (Bo (icmp .eql kind 0)), (Bo (icmp .eql kind 1)), (Bo (icmp .eql kind 2)), (Bo (icmp .eql kind 3)), (Bo (icmp .eql kind 16)), (u12 30), (u12 31), (u12 32), (u12 33), (u12 34), (Bo (icmp .eql kind 8)), (Bo (icmp .eql kind 8)), (u12 37), (u12 38), (u12 39), (.slice p_nums L_nums.length q_nums), (Iv (k : Int)), (Pt b100 o101), (Fl r104), (Bo (fcmp .leq (ford .f32 (cf .f32 r104) (cf .f32 0))))] : List Value)[t]?).getD undef, ?_, (Ext.gr E14 E29), ?_⟩, ?_⟩
        · first | rfl | (simp only [Int.natCast_add, Int.natCast_one]; rfl)
        · exact ⟨by omega, AllTo.step hal (by assumption) (by simp_all [numOk, rlSg, inI, icmp, lssF, leqF])⟩
        · omega
      have c98' := c98
      (try simp only [icmp, Bool.and_eq_true, Bool.or_eq_true, Bool.and_eq_false_iff, Bool.or_eq_false_iff, Bool.not_eq_true', Bool.not_eq_false', decide_eq_true_eq, decide_eq_false_iff_not, beq_iff_eq, bne_iff_ne, beq_eq_false_iff_ne, bne_eq_false_iff_eq] at c98')
      refine wp_seq_k fun K109 hK109 => ?_
      refine wp_region_lit ?_
      refine q_is rfl rfl (does_icmp (p := kind) (q := 10) (.inl rfl) (ev rfl) (ev rfl)) (by dsimp only [List.set]; try rfl) ?_
      refine q_is rfl rfl (does_assign (u := (Bo (icmp .eql kind 10))) (ev rfl)) (by dsimp only [List.set]; try rfl) ?_
      refine wpList_nil (hK109 _ _ ?_)
      refine wp_cond_split (t := icmp .eql kind 10) (ev rfl) (fun c110 => ?_) (fun c110 => ?_)
      · have c110' := c110
        (try simp only [icmp, Bool.and_eq_true, Bool.or_eq_true, Bool.and_eq_false_iff, Bool.or_eq_false_iff, Bool.not_eq_true', Bool.not_eq_false', decide_eq_true_eq, decide_eq_false_iff_not, beq_iff_eq, bne_iff_ne, beq_eq_false_iff_ne, bne_eq_false_iff_eq] at c110')
        refine wp_skip (hK96 _ _ ?_)
        refine wp_cond_true ((ev (rfl : evl _ _ = .bool (icmp .eql kind 10))).trans (congrArg Value.bool c110)) ?_
        refine wp_seq_k fun K111 hK111 => ?_
        refine wp_region_lit ?_
        refine q_is rfl rfl (does_move (u := (.slice p_nums L_nums.length q_nums)) (ev rfl)) (by dsimp only [List.set]; try rfl) ?_
        refine q_is rfl rfl (does_move (u := (Iv (k : Int))) (ev rfl)) (by dsimp only [List.set]; try rfl) ?_
        refine seqd rfl rfl (does_indexSl (R := RF) (i := (k : Int)) (xs := L_nums) (e := el1) Try.underlying97 Try.sizeOf38 (ev rfl) (ev rfl) (Sl.ext hv_nums RF.mono X31) (by omega) hel1) ?_; rintro _ w30 ⟨b112, o113, _, rfl, hc115, ⟨r116, rfl, h117⟩, rfl⟩
        show wpList _ _ _ _ (fr [_, _, _, _, _, _, _, _, _, _, _, _, _, _, _, _, _, _, _, _, _, _, _, _, _, _, _, _, _, _, _, _, _, _, _, _, _, _, _, _, _, _, _, _, _]) _
        refine q_is rfl rfl (does_load (u := (Fl r116)) (ev rfl) Try.isAgg38 (Cells.at hc115 0 rfl)) (by dsimp only [List.set]; try rfl) ?_
        refine q_is rfl rfl (does_fcmp (.inr (.inr (.inr (.inl rfl)))) (ev rfl) (ev rfl)) (by dsimp only [List.set]; try rfl) ?_
        refine wpList_nil (hK111 _ _ ?_)
        refine wp_cond_split (t := fcmp .leq (ford .f32 (cf .f32 r116) (cf .f32 0))) (ev rfl) (fun c118 => ?_) (fun c118 => ?_)
        · have c118' := c118
          refine wp_seq_k fun K119 hK119 => ?_
          refine wp_region_lit ?_
          refine q_is rfl rfl (does_assign (u := (Bo false)) (ev rfl)) (by dsimp only [List.set]; try rfl) ?_
          refine wpList_nil (hK119 _ _ ?_)
          refine wp_ret ?_
          dsimp only [Exit.then, Exit.inBlock]
          refine ret_val (v := (Bo false)) (res_T rfl (slot rfl)) X31 ?_
          try simp only [hel1, h28, h117] at c7 c19 c32 c38 c50 c62 c74 c85 c98 c110 c118
          have x120 : (nodeNums kind L_nums) = false := by first | exact nodeNums_len (by omega) | exact nodeNums_bad (by assumption) (by simp_all [numOk, rlSg, inI, icmp, lssF, leqF]) | exact nodeNums_ok (by omega) hal (by omega)
          exact (by first | with_reducible rfl | rw [x120] | rfl)
        have c118' := c118
        refine wp_skip (hK20 _ _ ?_)
        refine wp_region_lit ?_
        refine q_is rfl rfl (does_move (u := (Iv (k : Int))) (ev rfl)) (by dsimp only [List.set]; try rfl) ?_
        refine q_is rfl rfl (does_iarith (p := (k : Int)) (q := 1) (r := (k : Int) + 1) (ev rfl) (ev rfl) (.inl ⟨rfl, (in_i64 (by omega) (by omega)).symm⟩)) (by dsimp only [List.set]; try rfl) ?_
        refine q_is rfl rfl (does_assign (u := (Iv ((k : Int) + 1))) (ev rfl)) (by dsimp only [List.set]; try rfl) ?_
        refine wpList_nil ?_
        refine ⟨k + 1, ⟨fun t => (([(Iv kind), (.slice p_nums L_nums.length q_nums), Ud, Ud, (u12 4), (Iv ((k : Int) + 1)), (.slice p_nums L_nums.length q_nums), (Iv (L_nums.length : Int)), (Iv kind), (Iv (rlNum kind)), (Bo (icmp .neq (L_nums.length : Int) (rlNum kind))), (Iv (k : Int)), (.slice p_nums L_nums.length q_nums), (Iv (L_nums.length : Int)), (Bo (icmp .lss (k : Int) (L_nums.length : Int))), (Iv (k : Int)), (Iv ((k : Int) + 1)), (.slice p_nums L_nums.length q_nums), (Iv (k : Int)), (Pt b23 o24), (Fl r27), (Bo (finF (cf .f32 r27))), (Bo (!(finF (cf .f32 r27)))), (Iv kind), (Bo (icmp .eql kind 16)), (Bo (icmp .eql kind 0)), (Bo (icmp .eql kind 1)), (Bo (icmp .eql kind 2)), (Bo (icmp .eql kind 3)), (Bo (icmp .eql kind 16)), (u12 30), (u12 31), (u12 32), (u12 33), (u12 34), (Bo (icmp .eql kind 10)), (Bo (icmp .eql kind 8)), (Bo (icmp .eql kind 10)), (u12 38), (u12 39), (.slice p_nums L_nums.length q_nums), (Iv (k : Int)), (Pt b112 o113), (Fl r116), (Bo (fcmp .leq (ford .f32 (cf .f32 r116) (cf .f32 0))))] : List Value)[t]?).getD undef, ?_, (Ext.gr E14 E29), ?_⟩, ?_⟩
        · first | rfl | (simp only [Int.natCast_add, Int.natCast_one]; rfl)
        · exact ⟨by omega, AllTo.step hal (by assumption) (by simp_all [numOk, rlSg, inI, icmp, lssF, leqF])⟩
        · omega
      have c110' := c110
      (try simp only [icmp, Bool.and_eq_true, Bool.or_eq_true, Bool.and_eq_false_iff, Bool.or_eq_false_iff, Bool.not_eq_true', Bool.not_eq_false', decide_eq_true_eq, decide_eq_false_iff_not, beq_iff_eq, bne_iff_ne, beq_eq_false_iff_ne, bne_eq_false_iff_eq] at c110')
      refine wp_seq_k fun K121 hK121 => ?_
      refine wp_region_lit ?_
      refine q_is rfl rfl (does_icmp (p := kind) (q := 11) (.inl rfl) (ev rfl) (ev rfl)) (by dsimp only [List.set]; try rfl) ?_
      refine q_is rfl rfl (does_assign (u := (Bo (icmp .eql kind 11))) (ev rfl)) (by dsimp only [List.set]; try rfl) ?_
      refine wpList_nil (hK121 _ _ ?_)
      refine wp_cond_split (t := icmp .eql kind 11) (ev rfl) (fun c122 => ?_) (fun c122 => ?_)
      · have c122' := c122
        (try simp only [icmp, Bool.and_eq_true, Bool.or_eq_true, Bool.and_eq_false_iff, Bool.or_eq_false_iff, Bool.not_eq_true', Bool.not_eq_false', decide_eq_true_eq, decide_eq_false_iff_not, beq_iff_eq, bne_iff_ne, beq_eq_false_iff_ne, bne_eq_false_iff_eq] at c122')
        refine wp_skip (hK96 _ _ ?_)
        refine wp_cond_true ((ev (rfl : evl _ _ = .bool (icmp .eql kind 11))).trans (congrArg Value.bool c122)) ?_
        refine wp_seq_k fun K123 hK123 => ?_
        refine wp_region_lit ?_
        refine q_is rfl rfl (does_move (u := (.slice p_nums L_nums.length q_nums)) (ev rfl)) (by dsimp only [List.set]; try rfl) ?_
        refine q_is rfl rfl (does_move (u := (Iv (k : Int))) (ev rfl)) (by dsimp only [List.set]; try rfl) ?_
        refine seqd rfl rfl (does_indexSl (R := RF) (i := (k : Int)) (xs := L_nums) (e := el1) Try.underlying97 Try.sizeOf38 (ev rfl) (ev rfl) (Sl.ext hv_nums RF.mono X31) (by omega) hel1) ?_; rintro _ w30 ⟨b124, o125, _, rfl, hc127, ⟨r128, rfl, h129⟩, rfl⟩
        show wpList _ _ _ _ (fr [_, _, _, _, _, _, _, _, _, _, _, _, _, _, _, _, _, _, _, _, _, _, _, _, _, _, _, _, _, _, _, _, _, _, _, _, _, _, _, _, _, _, _, _, _]) _
        refine q_is rfl rfl (does_load (u := (Fl r128)) (ev rfl) Try.isAgg38 (Cells.at hc127 0 rfl)) (by dsimp only [List.set]; try rfl) ?_
        refine q_is rfl rfl (does_fcmp (.inr (.inr (.inr (.inl rfl)))) (ev rfl) (ev rfl)) (by dsimp only [List.set]; try rfl) ?_
        refine wpList_nil (hK123 _ _ ?_)
        refine wp_cond_split (t := fcmp .leq (ford .f32 (cf .f32 r128) (cf .f32 0))) (ev rfl) (fun c130 => ?_) (fun c130 => ?_)
        · have c130' := c130
          refine wp_seq_k fun K131 hK131 => ?_
          refine wp_region_lit ?_
          refine q_is rfl rfl (does_assign (u := (Bo false)) (ev rfl)) (by dsimp only [List.set]; try rfl) ?_
          refine wpList_nil (hK131 _ _ ?_)
          refine wp_ret ?_
          dsimp only [Exit.then, Exit.inBlock]
          refine ret_val (v := (Bo false)) (res_T rfl (slot rfl)) X31 ?_
          try simp only [hel1, h28, h129] at c7 c19 c32 c38 c50 c62 c74 c85 c98 c110 c122 c130
          have x132 : (nodeNums kind L_nums) = false := by first | exact nodeNums_len (by omega) | exact nodeNums_bad (by assumption) (by simp_all [numOk, rlSg, inI, icmp, lssF, leqF]) | exact nodeNums_ok (by omega) hal (by omega)
          exact (by first | with_reducible rfl | rw [x132] | rfl)
        have c130' := c130
        refine wp_skip (hK20 _ _ ?_)
        refine wp_region_lit ?_
        refine q_is rfl rfl (does_move (u := (Iv (k : Int))) (ev rfl)) (by dsimp only [List.set]; try rfl) ?_
        refine q_is rfl rfl (does_iarith (p := (k : Int)) (q := 1) (r := (k : Int) + 1) (ev rfl) (ev rfl) (.inl ⟨rfl, (in_i64 (by omega) (by omega)).symm⟩)) (by dsimp only [List.set]; try rfl) ?_
        refine q_is rfl rfl (does_assign (u := (Iv ((k : Int) + 1))) (ev rfl)) (by dsimp only [List.set]; try rfl) ?_
        refine wpList_nil ?_
        refine ⟨k + 1, ⟨fun t => (([(Iv kind), (.slice p_nums L_nums.length q_nums), Ud, Ud, (u12 4), (Iv ((k : Int) + 1)), (.slice p_nums L_nums.length q_nums), (Iv (L_nums.length : Int)), (Iv kind), (Iv (rlNum kind)), (Bo (icmp .neq (L_nums.length : Int) (rlNum kind))), (Iv (k : Int)), (.slice p_nums L_nums.length q_nums), (Iv (L_nums.length : Int)), (Bo (icmp .lss (k : Int) (L_nums.length : Int))), (Iv (k : Int)), (Iv ((k : Int) + 1)), (.slice p_nums L_nums.length q_nums), (Iv (k : Int)), (Pt b23 o24), (Fl r27), (Bo (finF (cf .f32 r27))), (Bo (!(finF (cf .f32 r27)))), (Iv kind), (Bo (icmp .eql kind 16)), (Bo (icmp .eql kind 0)), (Bo (icmp .eql kind 1)), (Bo (icmp .eql kind 2)), (Bo (icmp .eql kind 3)), (Bo (icmp .eql kind 16)), (u12 30), (u12 31), (u12 32), (u12 33), (u12 34), (Bo (icmp .eql kind 11)), (Bo (icmp .eql kind 8)), (Bo (icmp .eql kind 10)), (Bo (icmp .eql kind 11)), (u12 39), (.slice p_nums L_nums.length q_nums), (Iv (k : Int)), (Pt b124 o125), (Fl r128), (Bo (fcmp .leq (ford .f32 (cf .f32 r128) (cf .f32 0))))] : List Value)[t]?).getD undef, ?_, (Ext.gr E14 E29), ?_⟩, ?_⟩
        · first | rfl | (simp only [Int.natCast_add, Int.natCast_one]; rfl)
        · exact ⟨by omega, AllTo.step hal (by assumption) (by simp_all [numOk, rlSg, inI, icmp, lssF, leqF])⟩
        · omega
      have c122' := c122
      (try simp only [icmp, Bool.and_eq_true, Bool.or_eq_true, Bool.and_eq_false_iff, Bool.or_eq_false_iff, Bool.not_eq_true', Bool.not_eq_false', decide_eq_true_eq, decide_eq_false_iff_not, beq_iff_eq, bne_iff_ne, beq_eq_false_iff_ne, bne_eq_false_iff_eq] at c122')
      refine wp_region_lit ?_
      refine q_is rfl rfl (does_icmp (p := kind) (q := 14) (.inl rfl) (ev rfl) (ev rfl)) (by dsimp only [List.set]; try rfl) ?_
      refine q_is rfl rfl (does_assign (u := (Bo (icmp .eql kind 14))) (ev rfl)) (by dsimp only [List.set]; try rfl) ?_
      refine wpList_nil (hK96 _ _ ?_)
      refine wp_cond_split (t := icmp .eql kind 14) (ev rfl) (fun c133 => ?_) (fun c133 => ?_)
      · have c133' := c133
        (try simp only [icmp, Bool.and_eq_true, Bool.or_eq_true, Bool.and_eq_false_iff, Bool.or_eq_false_iff, Bool.not_eq_true', Bool.not_eq_false', decide_eq_true_eq, decide_eq_false_iff_not, beq_iff_eq, bne_iff_ne, beq_eq_false_iff_ne, bne_eq_false_iff_eq] at c133')
        refine wp_seq_k fun K134 hK134 => ?_
        refine wp_region_lit ?_
        refine q_is rfl rfl (does_move (u := (.slice p_nums L_nums.length q_nums)) (ev rfl)) (by dsimp only [List.set]; try rfl) ?_
        refine q_is rfl rfl (does_move (u := (Iv (k : Int))) (ev rfl)) (by dsimp only [List.set]; try rfl) ?_
        refine seqd rfl rfl (does_indexSl (R := RF) (i := (k : Int)) (xs := L_nums) (e := el1) Try.underlying97 Try.sizeOf38 (ev rfl) (ev rfl) (Sl.ext hv_nums RF.mono X31) (by omega) hel1) ?_; rintro _ w30 ⟨b135, o136, _, rfl, hc138, ⟨r139, rfl, h140⟩, rfl⟩
        show wpList _ _ _ _ (fr [_, _, _, _, _, _, _, _, _, _, _, _, _, _, _, _, _, _, _, _, _, _, _, _, _, _, _, _, _, _, _, _, _, _, _, _, _, _, _, _, _, _, _, _, _]) _
        refine q_is rfl rfl (does_load (u := (Fl r139)) (ev rfl) Try.isAgg38 (Cells.at hc138 0 rfl)) (by dsimp only [List.set]; try rfl) ?_
        refine q_is rfl rfl (does_fcmp (.inr (.inr (.inr (.inl rfl)))) (ev rfl) (ev rfl)) (by dsimp only [List.set]; try rfl) ?_
        refine wpList_nil (hK134 _ _ ?_)
        refine wp_cond_split (t := fcmp .leq (ford .f32 (cf .f32 r139) (cf .f32 0))) (ev rfl) (fun c141 => ?_) (fun c141 => ?_)
        · have c141' := c141
          refine wp_seq_k fun K142 hK142 => ?_
          refine wp_region_lit ?_
          refine q_is rfl rfl (does_assign (u := (Bo false)) (ev rfl)) (by dsimp only [List.set]; try rfl) ?_
          refine wpList_nil (hK142 _ _ ?_)
          refine wp_ret ?_
          dsimp only [Exit.then, Exit.inBlock]
          refine ret_val (v := (Bo false)) (res_T rfl (slot rfl)) X31 ?_
          try simp only [hel1, h28, h140] at c7 c19 c32 c38 c50 c62 c74 c85 c98 c110 c122 c133 c141
          have x143 : (nodeNums kind L_nums) = false := by first | exact nodeNums_len (by omega) | exact nodeNums_bad (by assumption) (by simp_all [numOk, rlSg, inI, icmp, lssF, leqF]) | exact nodeNums_ok (by omega) hal (by omega)
          exact (by first | with_reducible rfl | rw [x143] | rfl)
        have c141' := c141
        refine wp_skip (hK20 _ _ ?_)
        refine wp_region_lit ?_
        refine q_is rfl rfl (does_move (u := (Iv (k : Int))) (ev rfl)) (by dsimp only [List.set]; try rfl) ?_
        refine q_is rfl rfl (does_iarith (p := (k : Int)) (q := 1) (r := (k : Int) + 1) (ev rfl) (ev rfl) (.inl ⟨rfl, (in_i64 (by omega) (by omega)).symm⟩)) (by dsimp only [List.set]; try rfl) ?_
        refine q_is rfl rfl (does_assign (u := (Iv ((k : Int) + 1))) (ev rfl)) (by dsimp only [List.set]; try rfl) ?_
        refine wpList_nil ?_
        refine ⟨k + 1, ⟨fun t => (([(Iv kind), (.slice p_nums L_nums.length q_nums), Ud, Ud, (u12 4), (Iv ((k : Int) + 1)), (.slice p_nums L_nums.length q_nums), (Iv (L_nums.length : Int)), (Iv kind), (Iv (rlNum kind)), (Bo (icmp .neq (L_nums.length : Int) (rlNum kind))), (Iv (k : Int)), (.slice p_nums L_nums.length q_nums), (Iv (L_nums.length : Int)), (Bo (icmp .lss (k : Int) (L_nums.length : Int))), (Iv (k : Int)), (Iv ((k : Int) + 1)), (.slice p_nums L_nums.length q_nums), (Iv (k : Int)), (Pt b23 o24), (Fl r27), (Bo (finF (cf .f32 r27))), (Bo (!(finF (cf .f32 r27)))), (Iv kind), (Bo (icmp .eql kind 16)), (Bo (icmp .eql kind 0)), (Bo (icmp .eql kind 1)), (Bo (icmp .eql kind 2)), (Bo (icmp .eql kind 3)), (Bo (icmp .eql kind 16)), (u12 30), (u12 31), (u12 32), (u12 33), (u12 34), (Bo (icmp .eql kind 14)), (Bo (icmp .eql kind 8)), (Bo (icmp .eql kind 10)), (Bo (icmp .eql kind 11)), (Bo (icmp .eql kind 14)), (.slice p_nums L_nums.length q_nums), (Iv (k : Int)), (Pt b135 o136), (Fl r139), (Bo (fcmp .leq (ford .f32 (cf .f32 r139) (cf .f32 0))))] : List Value)[t]?).getD undef, ?_, (Ext.gr E14 E29), ?_⟩, ?_⟩
        · first | rfl | (simp only [Int.natCast_add, Int.natCast_one]; rfl)
        · exact ⟨by omega, AllTo.step hal (by assumption) (by simp_all [numOk, rlSg, inI, icmp, lssF, leqF])⟩
        · omega
      have c133' := c133
      (try simp only [icmp, Bool.and_eq_true, Bool.or_eq_true, Bool.and_eq_false_iff, Bool.or_eq_false_iff, Bool.not_eq_true', Bool.not_eq_false', decide_eq_true_eq, decide_eq_false_iff_not, beq_iff_eq, bne_iff_ne, beq_eq_false_iff_ne, bne_eq_false_iff_eq] at c133')
      refine wp_skip (hK20 _ _ ?_)
      refine wp_region_lit ?_
      refine q_is rfl rfl (does_move (u := (Iv (k : Int))) (ev rfl)) (by dsimp only [List.set]; try rfl) ?_
      refine q_is rfl rfl (does_iarith (p := (k : Int)) (q := 1) (r := (k : Int) + 1) (ev rfl) (ev rfl) (.inl ⟨rfl, (in_i64 (by omega) (by omega)).symm⟩)) (by dsimp only [List.set]; try rfl) ?_
      refine q_is rfl rfl (does_assign (u := (Iv ((k : Int) + 1))) (ev rfl)) (by dsimp only [List.set]; try rfl) ?_
      refine wpList_nil ?_
      refine ⟨k + 1, ⟨fun t => (([(Iv kind), (.slice p_nums L_nums.length q_nums), Ud, Ud, (u12 4), (Iv ((k : Int) + 1)), (.slice p_nums L_nums.length q_nums), (Iv (L_nums.length : Int)), (Iv kind), (Iv (rlNum kind)), (Bo (icmp .neq (L_nums.length : Int) (rlNum kind))), (Iv (k : Int)), (.slice p_nums L_nums.length q_nums), (Iv (L_nums.length : Int)), (Bo (icmp .lss (k : Int) (L_nums.length : Int))), (Iv (k : Int)), (Iv ((k : Int) + 1)), (.slice p_nums L_nums.length q_nums), (Iv (k : Int)), (Pt b23 o24), (Fl r27), (Bo (finF (cf .f32 r27))), (Bo (!(finF (cf .f32 r27)))), (Iv kind), (Bo (icmp .eql kind 16)), (Bo (icmp .eql kind 0)), (Bo (icmp .eql kind 1)), (Bo (icmp .eql kind 2)), (Bo (icmp .eql kind 3)), (Bo (icmp .eql kind 16)), (u12 30), (u12 31), (u12 32), (u12 33), (u12 34), (Bo (icmp .eql kind 14)), (Bo (icmp .eql kind 8)), (Bo (icmp .eql kind 10)), (Bo (icmp .eql kind 11)), (Bo (icmp .eql kind 14)), (u12 40), (u12 41), (u12 42), (u12 43), (u12 44)] : List Value)[t]?).getD undef, ?_, (Ext.gr E14 E29), ?_⟩, ?_⟩
      · first | rfl | (simp only [Int.natCast_add, Int.natCast_one]; rfl)
      · exact ⟨by omega, AllTo.step hal (by assumption) (by simp_all [numOk, rlSg, inI, icmp, lssF, leqF])⟩
      · omega
    have c19' := c19
    (try simp only [icmp, Bool.and_eq_true, Bool.or_eq_true, Bool.and_eq_false_iff, Bool.or_eq_false_iff, Bool.not_eq_true', Bool.not_eq_false', decide_eq_true_eq, decide_eq_false_iff_not, beq_iff_eq, bne_iff_ne, beq_eq_false_iff_ne, bne_eq_false_iff_eq] at c19')
    refine wp_exit ?_
    refine hK10 _ _ ?_
    refine wp_seq_k fun K144 hK144 => ?_
    refine wp_region_lit ?_
    refine q_is rfl rfl (does_assign (u := (Bo true)) (ev rfl)) (by dsimp only [List.set]; try rfl) ?_
    refine wpList_nil (hK144 _ _ ?_)
    refine wp_ret ?_
    refine ret_val (v := (Bo true)) (res_T rfl (slot rfl)) X16 ?_
    have x145 : (nodeNums kind L_nums) = true := by first | exact nodeNums_len (by omega) | exact nodeNums_bad (by assumption) (by simp_all [numOk, rlSg, inI, icmp, lssF, leqF]) | exact nodeNums_ok (by omega) hal (by omega)
    exact (by first | with_reducible rfl | rw [x145] | rfl)

/- spec.l02Axis -/
theorem c_spec_l02Axis (kind : Int) (w : World) : Gives Try.prog 82 #[(Iv kind)] w (fun v w' => v = (Bo (rlAx kind))) := by
  refine enter [(Iv kind), Ud, Ud, Ud, Ud] Try.func82 rfl Try.ntmps82 rfl ?_
  refine wp_seq_k fun K1 hK1 => ?_
  refine wp_region_lit ?_
  refine q_is (l' := [(Iv kind), Ud, (Bo false), Ud, Ud]) rfl rfl (does_assign (u := (Bo false)) (ev rfl)) rfl ?_
  refine wpList_nil (hK1 _ _ ?_)
  refine wp_seq_k fun K2 hK2 => ?_
  refine wp_region_lit ?_
  refine q_is (l' := [(Iv kind), Ud, (Bo false), (Iv kind), Ud]) rfl rfl (does_move (u := (Iv kind)) (ev rfl)) rfl ?_
  refine seqd rfl rfl (does_call (args := #[(Iv kind), (Iv 12), (Iv 14)]) cal66 (evs rfl) (c_spec_l00In kind 12 14 _)) ?_; rintro _ w4 ⟨E3, rfl⟩
  have X5 := Ext.gr (Ext.refl w) E3
  show wpList _ _ _ _ (fr [(Iv kind), Ud, (Bo false), (Iv kind), (Bo (inI kind 12 14))]) _
  refine q_is (l' := [(Iv kind), Ud, (Bo (inI kind 12 14)), (Iv kind), (Bo (inI kind 12 14))]) rfl rfl (does_assign (u := (Bo (inI kind 12 14))) (ev rfl)) rfl ?_
  refine wpList_nil (hK2 _ _ ?_)
  refine wp_ret ?_
  refine ret_val (v := (Bo (inI kind 12 14))) (res_T rfl (slot rfl)) X5 ?_
  have x6 : (rlAx kind) = (inI kind 12 14) := by first | with_reducible rfl | (simp only [rlAx, ptsK]; done) | (simp [rlAx, ptsK]; done) | rfl
  exact (by first | with_reducible rfl | rw [x6] | rfl)

/- spec.l02Node -/
theorem c_spec_l02Node (n__b : Nat) (n__o : Nat) (n_ : List Value) (A_n_ : NodeT) (i_ : Int) (w : World) (hc_n_ : Cells w n__b n__o n_) (hv_n_ : RNodeT w A_n_ n_) (hi : 0 ≤ i_ ∧ i_ ≤ 1000) : Gives Try.prog 49 #[(Pt n__b n__o), (Iv i_)] w (fun v w' => v = (Bo (nodeIn A_n_ i_))) := by
  obtain ⟨y1, rfl, h2⟩ := hv_n_
  have hs5 := h2; have hs5l := Sl.len h2; obtain ⟨p3, q4, rfl⟩ := Sl.shape h2
  refine enter [(Pt n__b n__o), (Iv i_), Ud, Ud, Ud, Ud, Ud, Ud, Ud, Ud, Ud, Ud, Ud, Ud, Ud, Ud, Ud, Ud, Ud, Ud, Ud, Ud, Ud, Ud, Ud, Ud, Ud, Ud, Ud, Ud, Ud, Ud, Ud, Ud, Ud, Ud, Ud, Ud, Ud, Ud, Ud, Ud, Ud, Ud, Ud, Ud, Ud, Ud, Ud, Ud, Ud, Ud, Ud, Ud, Ud, Ud, Ud, Ud, Ud, Ud, Ud, Ud, Ud, Ud, Ud, Ud, Ud, Ud, Ud, Ud, Ud, Ud, Ud, Ud, Ud] Try.func49 rfl Try.ntmps49 rfl ?_
  refine wp_seq_k fun K6 hK6 => ?_
  refine wp_region_lit ?_
  refine q_is rfl rfl (does_assign (u := (Bo false)) (ev rfl)) (by dsimp only [List.set]; try rfl) ?_
  refine wpList_nil (hK6 _ _ ?_)
  refine wp_seq_k fun K7 hK7 => ?_
  refine wp_seq_k fun K8 hK8 => ?_
  obtain ⟨β1, hβ1⟩ : ∃ b : Bool, b = (nodeNums A_n_.kind A_n_.nums) := ⟨_, rfl⟩
  obtain ⟨β2, hβ2⟩ : ∃ b : Bool, b = ((!(inI A_n_.kind 0 16)) || (!β1)) := ⟨_, rfl⟩
  refine region_draw (
    [Fact.pure [] (fun v => v = (Pt n__b n__o)),
    Fact.pure [5] (fun v => v = (Pt n__b n__o)),
    Fact.pure [6] (fun v => v = (Pt n__b n__o)),
    Fact.pure [7] (fun v => v = (Iv A_n_.kind)),
    Fact.pure [8] (fun v => v = (Bo (inI A_n_.kind 0 16))),
    Fact.pure [9] (fun v => v = (Bo (!(inI A_n_.kind 0 16)))),
    Fact.pure [10] (fun v => v = (Bo (!(inI A_n_.kind 0 16)))),
    Fact.pure [11] (fun v => (!(inI A_n_.kind 0 16)) = false → v = (Pt n__b n__o)),
    Fact.pure [12, 11] (fun v => (!(inI A_n_.kind 0 16)) = false → v = (Pt n__b n__o)),
    Fact.pure [13, 11] (fun v => (!(inI A_n_.kind 0 16)) = false → v = (Pt n__b n__o)),
    Fact.pure [14, 11] (fun v => (!(inI A_n_.kind 0 16)) = false → v = (Iv A_n_.kind)),
    Fact.pure [11] (fun v => (!(inI A_n_.kind 0 16)) = false → v = (Pt n__b n__o)),
    Fact.pure [16, 11] (fun v => (!(inI A_n_.kind 0 16)) = false → v = (Pt n__b n__o)),
    Fact.pure [17, 11] (fun v => (!(inI A_n_.kind 0 16)) = false → v = (Pt n__b (n__o + 3))),
    Fact.pure [18, 11] (fun v => (!(inI A_n_.kind 0 16)) = false → v = (.slice p3 A_n_.nums.length q4)),
    Fact.pure [15, 19, 11] (fun v => (!(inI A_n_.kind 0 16)) = false → v = (Bo β1)),
    Fact.pure [20, 11] (fun v => (!(inI A_n_.kind 0 16)) = false → v = (Bo (!β1))),
    Fact.pure [11, 21] (fun v => v = (Bo β2))]) mixed (by kernel_rfl) (by intro _ _ d _ _ h; cases d <;> exact h) ?_
  obtain ⟨w9, hw11⟩ : ∃ w', w' = World.drew w := ⟨_, rfl⟩; rw [← hw11]; have E10 : Ext w w9 := by rw [hw11]; exact Ext.draw _
  clear hw11
  have X12 := Ext.gr (Ext.refl w) E10
  refine RW_d _ rfl (fun v => by dsimp only [List.set]; try rfl) (fun u hu hF => ?_) (fun v13 => ?_)
  · clear hF
    refine doesG_un rfl ?_
    refine (does_move (u := (Pt n__b n__o)) (ev rfl)).mono ?_; rintro _ _ ⟨rfl, rfl⟩
    exact ⟨rfl, Ext.refl _⟩
  refine RW_d _ rfl (fun v => by dsimp only [List.set]; try rfl) (fun u hu hF => ?_) (fun v14 => ?_)
  · have h5_ : v13 = (Pt n__b n__o) := hF.1
    clear hF
    refine doesG_un rfl ?_
    obtain rfl := h5_
    refine (does_nilCheck (ev rfl)).mono ?_; rintro _ _ ⟨rfl, rfl⟩
    exact ⟨rfl, Ext.refl _⟩
  refine RW_d _ rfl (fun v => by dsimp only [List.set]; try rfl) (fun u hu hF => ?_) (fun v15 => ?_)
  · have h6_ : v14 = (Pt n__b n__o) := hF.1
    clear hF
    refine doesG_un rfl ?_
    obtain rfl := h6_
    refine (does_fieldAddr (ev rfl) fa102_0).mono ?_; rintro _ _ ⟨rfl, rfl⟩
    exact ⟨rfl, Ext.refl _⟩
  refine RW_d _ rfl (fun v => by dsimp only [List.set]; try rfl) (fun u hu hF => ?_) (fun v16 => ?_)
  · have h7_ : v15 = (Pt n__b n__o) := hF.1
    clear hF
    refine doesG_un rfl ?_
    obtain rfl := h7_
    refine (does_load (u := (Iv A_n_.kind)) (ev rfl) Try.isAgg2 (Cells.at ((hc_n_.ext (Ext.gr (Ext.refl w) E10)).ext hu) 0 rfl)).mono ?_; rintro _ _ ⟨rfl, rfl⟩
    exact ⟨rfl, Ext.refl _⟩
  refine RW_d _ rfl (fun v => by dsimp only [List.set]; try rfl) (fun u hu hF => ?_) (fun v17 => ?_)
  · have h8_ : v16 = (Iv A_n_.kind) := hF.1
    clear hF
    refine doesG_un rfl ?_
    obtain rfl := h8_
    refine (does_call (args := #[(Iv A_n_.kind), (Iv 0), (Iv 16)]) cal66 (evs rfl) (c_spec_l00In A_n_.kind 0 16 _)).mono ?_; rintro v u' ⟨hx, hv⟩
    exact ⟨hv, hx⟩
  refine RW_d _ rfl (fun v => by dsimp only [List.set]; try rfl) (fun u hu hF => ?_) (fun v18 => ?_)
  · have h9_ : v17 = (Bo (inI A_n_.kind 0 16)) := hF.1
    clear hF
    refine doesG_un rfl ?_
    obtain rfl := h9_
    refine (does_not (ev rfl)).mono ?_; rintro _ _ ⟨rfl, rfl⟩
    exact ⟨rfl, Ext.refl _⟩
  refine RW_d _ rfl (fun v => by dsimp only [List.set]; try rfl) (fun u hu hF => ?_) (fun v19 => ?_)
  · have h10_ : v18 = (Bo (!(inI A_n_.kind 0 16))) := hF.1
    clear hF
    refine doesG_un rfl ?_
    obtain rfl := h10_
    refine (does_move (u := (Bo (!(inI A_n_.kind 0 16)))) (ev rfl)).mono ?_; rintro _ _ ⟨rfl, rfl⟩
    exact ⟨rfl, Ext.refl _⟩
  refine RW_d _ rfl (fun v => by dsimp only [List.set]; try rfl) (fun u hu hF => ?_) (fun v20 => ?_)
  · have h11_ : v19 = (Bo (!(inI A_n_.kind 0 16))) := hF.1
    clear hF
    obtain rfl := h11_
    refine doesG_g (b := (!(inI A_n_.kind 0 16))) rfl (yld rfl rfl) (fun hg1 => ?_) (fun hc => ⟨fun hg1 => absurd hg1 hc, Ext.refl _⟩)
    refine (does_move (u := (Pt n__b n__o)) (ev rfl)).mono ?_; rintro _ _ ⟨rfl, rfl⟩
    exact ⟨fun _ => rfl, Ext.refl _⟩
  refine RW_d _ rfl (fun v => by dsimp only [List.set]; try rfl) (fun u hu hF => ?_) (fun v21 => ?_)
  · have h12_ : (!(inI A_n_.kind 0 16)) = false → v20 = (Pt n__b n__o) := hF.1
    have h11_ : v19 = (Bo (!(inI A_n_.kind 0 16))) := hF.2.1
    clear hF
    obtain rfl := h11_
    refine doesG_g (b := (!(inI A_n_.kind 0 16))) rfl (yld rfl rfl) (fun hg1 => ?_) (fun hc => ⟨fun hg1 => absurd hg1 hc, Ext.refl _⟩)
    obtain rfl := h12_ hg1
    refine (does_nilCheck (ev rfl)).mono ?_; rintro _ _ ⟨rfl, rfl⟩
    exact ⟨fun _ => rfl, Ext.refl _⟩
  refine RW_d _ rfl (fun v => by dsimp only [List.set]; try rfl) (fun u hu hF => ?_) (fun v22 => ?_)
  · have h13_ : (!(inI A_n_.kind 0 16)) = false → v21 = (Pt n__b n__o) := hF.1
    have h11_ : v19 = (Bo (!(inI A_n_.kind 0 16))) := hF.2.1
    clear hF
    obtain rfl := h11_
    refine doesG_g (b := (!(inI A_n_.kind 0 16))) rfl (yld rfl rfl) (fun hg1 => ?_) (fun hc => ⟨fun hg1 => absurd hg1 hc, Ext.refl _⟩)
    obtain rfl := h13_ hg1
    refine (does_fieldAddr (ev rfl) fa102_0).mono ?_; rintro _ _ ⟨rfl, rfl⟩
    exact ⟨fun _ => rfl, Ext.refl _⟩
  refine RW_d _ rfl (fun v => by dsimp only [List.set]; try rfl) (fun u hu hF => ?_) (fun v23 => ?_)
  · have h14_ : (!(inI A_n_.kind 0 16)) = false → v22 = (Pt n__b n__o) := hF.1
    have h11_ : v19 = (Bo (!(inI A_n_.kind 0 16))) := hF.2.1
    clear hF
    obtain rfl := h11_
    refine doesG_g (b := (!(inI A_n_.kind 0 16))) rfl (yld rfl rfl) (fun hg1 => ?_) (fun hc => ⟨fun hg1 => absurd hg1 hc, Ext.refl _⟩)
    obtain rfl := h14_ hg1
    refine (does_load (u := (Iv A_n_.kind)) (ev rfl) Try.isAgg2 (Cells.at ((hc_n_.ext (Ext.gr (Ext.refl w) E10)).ext hu) 0 rfl)).mono ?_; rintro _ _ ⟨rfl, rfl⟩
    exact ⟨fun _ => rfl, Ext.refl _⟩
  refine RW_d _ rfl (fun v => by dsimp only [List.set]; try rfl) (fun u hu hF => ?_) (fun v24 => ?_)
  · have h11_ : v19 = (Bo (!(inI A_n_.kind 0 16))) := hF.1
    clear hF
    obtain rfl := h11_
    refine doesG_g (b := (!(inI A_n_.kind 0 16))) rfl (yld rfl rfl) (fun hg1 => ?_) (fun hc => ⟨fun hg1 => absurd hg1 hc, Ext.refl _⟩)
    refine (does_move (u := (Pt n__b n__o)) (ev rfl)).mono ?_; rintro _ _ ⟨rfl, rfl⟩
    exact ⟨fun _ => rfl, Ext.refl _⟩
  refine RW_d _ rfl (fun v => by dsimp only [List.set]; try rfl) (fun u hu hF => ?_) (fun v25 => ?_)
  · have h16_ : (!(inI A_n_.kind 0 16)) = false → v24 = (Pt n__b n__o) := hF.1
    have h11_ : v19 = (Bo (!(inI A_n_.kind 0 16))) := hF.2.1
    clear hF
    obtain rfl := h11_
    refine doesG_g (b := (!(inI A_n_.kind 0 16))) rfl (yld rfl rfl) (fun hg1 => ?_) (fun hc => ⟨fun hg1 => absurd hg1 hc, Ext.refl _⟩)
    obtain rfl := h16_ hg1
    refine (does_nilCheck (ev rfl)).mono ?_; rintro _ _ ⟨rfl, rfl⟩
    exact ⟨fun _ => rfl, Ext.refl _⟩
  refine RW_d _ rfl (fun v => by dsimp only [List.set]; try rfl) (fun u hu hF => ?_) (fun v26 => ?_)
  · have h17_ : (!(inI A_n_.kind 0 16)) = false → v25 = (Pt n__b n__o) := hF.1
    have h11_ : v19 = (Bo (!(inI A_n_.kind 0 16))) := hF.2.1
    clear hF
    obtain rfl := h11_
    refine doesG_g (b := (!(inI A_n_.kind 0 16))) rfl (yld rfl rfl) (fun hg1 => ?_) (fun hc => ⟨fun hg1 => absurd hg1 hc, Ext.refl _⟩)
    obtain rfl := h17_ hg1
    refine (does_fieldAddr (ev rfl) fa102_3).mono ?_; rintro _ _ ⟨rfl, rfl⟩
    exact ⟨fun _ => rfl, Ext.refl _⟩
  refine RW_d _ rfl (fun v => by dsimp only [List.set]; try rfl) (fun u hu hF => ?_) (fun v27 => ?_)
  · have h18_ : (!(inI A_n_.kind 0 16)) = false → v26 = (Pt n__b (n__o + 3)) := hF.1
    have h11_ : v19 = (Bo (!(inI A_n_.kind 0 16))) := hF.2.1
    clear hF
    obtain rfl := h11_
    refine doesG_g (b := (!(inI A_n_.kind 0 16))) rfl (yld rfl rfl) (fun hg1 => ?_) (fun hc => ⟨fun hg1 => absurd hg1 hc, Ext.refl _⟩)
    obtain rfl := h18_ hg1
    refine (does_load (u := (.slice p3 A_n_.nums.length q4)) (ev rfl) Try.isAgg97 (Cells.at ((hc_n_.ext (Ext.gr (Ext.refl w) E10)).ext hu) 3 rfl)).mono ?_; rintro _ _ ⟨rfl, rfl⟩
    exact ⟨fun _ => rfl, Ext.refl _⟩
  refine RW_d _ rfl (fun v => by dsimp only [List.set]; try rfl) (fun u hu hF => ?_) (fun v28 => ?_)
  · have h15_ : (!(inI A_n_.kind 0 16)) = false → v23 = (Iv A_n_.kind) := hF.1
    have h19_ : (!(inI A_n_.kind 0 16)) = false → v27 = (.slice p3 A_n_.nums.length q4) := hF.2.1
    have h11_ : v19 = (Bo (!(inI A_n_.kind 0 16))) := hF.2.2.1
    clear hF
    obtain rfl := h11_
    refine doesG_g (b := (!(inI A_n_.kind 0 16))) rfl (yld rfl rfl) (fun hg1 => ?_) (fun hc => ⟨fun hg1 => absurd hg1 hc, Ext.refl _⟩)
    obtain rfl := h15_ hg1
    obtain rfl := h19_ hg1
    refine (does_call (args := #[(Iv A_n_.kind), (.slice p3 A_n_.nums.length q4)]) cal81 (evs rfl) (c_spec_l02Numbers A_n_.kind (.slice p3 A_n_.nums.length q4) A_n_.nums _ (Sl.ext (Sl.ext hs5 RF.mono (Ext.gr (Ext.refl w) E10)) RF.mono hu))).mono ?_; rintro v u' ⟨hx, hv⟩
    exact ⟨fun _ => hv.trans (by simp only [hβ1]), hx⟩
  refine RW_d _ rfl (fun v => by dsimp only [List.set]; try rfl) (fun u hu hF => ?_) (fun v29 => ?_)
  · have h20_ : (!(inI A_n_.kind 0 16)) = false → v28 = (Bo β1) := hF.1
    have h11_ : v19 = (Bo (!(inI A_n_.kind 0 16))) := hF.2.1
    clear hF
    obtain rfl := h11_
    refine doesG_g (b := (!(inI A_n_.kind 0 16))) rfl (yld rfl rfl) (fun hg1 => ?_) (fun hc => ⟨fun hg1 => absurd hg1 hc, Ext.refl _⟩)
    obtain rfl := h20_ hg1
    refine (does_not (ev rfl)).mono ?_; rintro _ _ ⟨rfl, rfl⟩
    exact ⟨fun _ => rfl, Ext.refl _⟩
  refine RW_d _ rfl (fun v => by dsimp only [List.set]; try rfl) (fun u hu hF => ?_) (fun v30 => ?_)
  · have h11_ : v19 = (Bo (!(inI A_n_.kind 0 16))) := hF.1
    have h21_ : (!(inI A_n_.kind 0 16)) = false → v29 = (Bo (!β1)) := hF.2.1
    clear hF
    refine doesG_un rfl ?_
    skip
    obtain rfl := h11_
    refine (does_pick (b := (!(inI A_n_.kind 0 16))) (u := (Bo true)) (v := v29) (ev rfl) (ev rfl) (ev rfl)).mono ?_; rintro _ _ ⟨rfl, rfl⟩; refine ⟨?_, Ext.refl _⟩; rw [hβ2]; skip
    cases hbb : (!(inI A_n_.kind 0 16))
    all_goals first | (show _ = _; simp only [↓reduceIte, Bool.true_and, Bool.false_and, Bool.true_or, Bool.false_or, Bool.false_eq_true]; done) | (have e_ := h21_ hbb; subst e_; show _ = _; simp only [↓reduceIte, Bool.true_and, Bool.false_and, Bool.true_or, Bool.false_or, Bool.false_eq_true]; done) | rfl | (have e_ := h21_ hbb; subst e_; rfl) | (simp [hbb] at h21_ ⊢; first | done | rfl | (subst h21_; rfl) | simp_all) | (simp [hbb] at h21_ ⊢; done)
  refine RW_fin ?_; intro w31 E32 hP33
  obtain ⟨⟨⟨⟨⟨⟨⟨⟨⟨⟨⟨⟨⟨⟨⟨⟨⟨⟨-, -⟩, -⟩, -⟩, -⟩, -⟩, -⟩, -⟩, -⟩, -⟩, -⟩, -⟩, -⟩, -⟩, -⟩, -⟩, -⟩, -⟩, q34⟩ := hP33
  have X35 := Ext.gr X12 E32
  have q34 : v30 = (Bo β2) := q34
  obtain rfl := q34
  show wpList _ _ _ _ (fr [_, _, _, _, _, _, _, _, _, _, _, _, _, _, _, _, _, _, _, _, _, _, _, _, _, _, _, _, _, _, _, _, _, _, _, _, _, _, _, _, _, _, _, _, _, _, _, _, _, _, _, _, _, _, _, _, _, _, _, _, _, _, _, _, _, _, _, _, _, _, _, _, _, _, _]) _
  refine wpList_nil (hK8 _ _ ?_)
  refine wp_cond_split (t := β2) (ev rfl) (fun c36 => ?_) (fun c36 => ?_)
  · have c36' := c36
    (try simp only [hβ1, hβ2] at c36')
    (try simp only [icmp, Bool.and_eq_true, Bool.or_eq_true, Bool.and_eq_false_iff, Bool.or_eq_false_iff, Bool.not_eq_true', Bool.not_eq_false', decide_eq_true_eq, decide_eq_false_iff_not, beq_iff_eq, bne_iff_ne, beq_eq_false_iff_ne, bne_eq_false_iff_eq] at c36')
    refine wp_seq_k fun K37 hK37 => ?_
    refine wp_region_lit ?_
    refine q_is rfl rfl (does_assign (u := (Bo false)) (ev rfl)) (by dsimp only [List.set]; try rfl) ?_
    refine wpList_nil (hK37 _ _ ?_)
    refine wp_ret ?_
    dsimp only [Exit.then, Exit.inBlock]
    refine ret_val (v := (Bo false)) (res_T rfl (slot rfl)) X35 ?_
    try simp only [hβ1, hβ2] at c36
    have x38 : (nodeIn A_n_ i_) = false := by first | exact nodeIn_0 (by assumption) | (rw [nodeIn_t (by assumption)]; simp only [*, if_true, if_false, Bool.false_eq_true, Bool.true_and, Bool.false_and, Bool.and_false, ↓reduceIte]; done)
    exact (by first | with_reducible rfl | rw [x38] | rfl)
  have c36' := c36
  (try simp only [hβ1, hβ2] at c36')
  (try simp only [icmp, Bool.and_eq_true, Bool.or_eq_true, Bool.and_eq_false_iff, Bool.or_eq_false_iff, Bool.not_eq_true', Bool.not_eq_false', decide_eq_true_eq, decide_eq_false_iff_not, beq_iff_eq, bne_iff_ne, beq_eq_false_iff_ne, bne_eq_false_iff_eq] at c36')
  refine wp_skip (hK7 _ _ ?_)
  refine wp_seq_k fun K39 hK39 => ?_
  refine wp_seq_k fun K40 hK40 => ?_
  refine wp_region_lit ?_
  refine q_is rfl rfl (does_move (u := (Pt n__b n__o)) (ev rfl)) (by dsimp only [List.set]; try rfl) ?_
  refine q_is rfl rfl (does_nilCheck (ev rfl)) (by dsimp only [List.set]; try rfl) ?_
  refine q_is rfl rfl (does_fieldAddr (ev rfl) fa102_0) (by dsimp only [List.set]; try rfl) ?_
  refine q_is rfl rfl (does_load (u := (Iv A_n_.kind)) (ev rfl) Try.isAgg2 (Cells.at (hc_n_.ext X35) 0 rfl)) (by dsimp only [List.set]; try rfl) ?_
  refine seqd rfl rfl (does_call (args := #[(Iv A_n_.kind)]) cal50 (evs rfl) (c_spec_l02Leaf A_n_.kind _)) ?_; rintro _ w42 ⟨E41, rfl⟩
  have X43 := Ext.gr X35 E41
  show wpList _ _ _ _ (fr [_, _, _, _, _, _, _, _, _, _, _, _, _, _, _, _, _, _, _, _, _, _, _, _, _, _, _, _, _, _, _, _, _, _, _, _, _, _, _, _, _, _, _, _, _, _, _, _, _, _, _, _, _, _, _, _, _, _, _, _, _, _, _, _, _, _, _, _, _, _, _, _, _, _, _]) _
  refine wpList_nil (hK40 _ _ ?_)
  refine wp_cond_split (t := inI A_n_.kind 0 4) (ev rfl) (fun c44 => ?_) (fun c44 => ?_)
  · have c44' := c44
    (try simp only [hβ1, hβ2] at c44')
    (try simp only [icmp, Bool.and_eq_true, Bool.or_eq_true, Bool.and_eq_false_iff, Bool.or_eq_false_iff, Bool.not_eq_true', Bool.not_eq_false', decide_eq_true_eq, decide_eq_false_iff_not, beq_iff_eq, bne_iff_ne, beq_eq_false_iff_ne, bne_eq_false_iff_eq] at c44')
    refine wp_seq_k fun K45 hK45 => ?_
    obtain ⟨β3, hβ3⟩ : ∃ b : Bool, b = ((icmp .eql A_n_.a 0) && (icmp .eql A_n_.b 0)) := ⟨_, rfl⟩
    refine region_text (
      [Fact.pure [] (fun v => v = (Pt n__b n__o)),
    Fact.pure [28] (fun v => v = (Pt n__b n__o)),
    Fact.pure [29] (fun v => v = (Pt n__b (n__o + 1))),
    Fact.pure [30] (fun v => v = (Iv A_n_.a)),
    Fact.pure [31] (fun v => v = (Bo (icmp .eql A_n_.a 0))),
    Fact.pure [32] (fun v => v = (Bo (icmp .eql A_n_.a 0))),
    Fact.pure [33] (fun v => (icmp .eql A_n_.a 0) = true → v = (Pt n__b n__o)),
    Fact.pure [34, 33] (fun v => (icmp .eql A_n_.a 0) = true → v = (Pt n__b n__o)),
    Fact.pure [35, 33] (fun v => (icmp .eql A_n_.a 0) = true → v = (Pt n__b (n__o + 2))),
    Fact.pure [36, 33] (fun v => (icmp .eql A_n_.a 0) = true → v = (Iv A_n_.b)),
    Fact.pure [37, 33] (fun v => (icmp .eql A_n_.a 0) = true → v = (Bo (icmp .eql A_n_.b 0))),
    Fact.pure [33, 38] (fun v => v = (Bo β3))]) (by simp [Fact.pure, Fact.mem]) ?_
    refine RW_d _ rfl (fun v => by dsimp only [List.set]; try rfl) (fun u hu hF => ?_) (fun v46 => ?_)
    · clear hF
      refine doesG_un rfl ?_
      refine (does_move (u := (Pt n__b n__o)) (ev rfl)).mono ?_; rintro _ _ ⟨rfl, rfl⟩
      exact ⟨rfl, Ext.refl _⟩
    refine RW_d _ rfl (fun v => by dsimp only [List.set]; try rfl) (fun u hu hF => ?_) (fun v47 => ?_)
    · have h28_ : v46 = (Pt n__b n__o) := hF.1
      clear hF
      refine doesG_un rfl ?_
      obtain rfl := h28_
      refine (does_nilCheck (ev rfl)).mono ?_; rintro _ _ ⟨rfl, rfl⟩
      exact ⟨rfl, Ext.refl _⟩
    refine RW_d _ rfl (fun v => by dsimp only [List.set]; try rfl) (fun u hu hF => ?_) (fun v48 => ?_)
    · have h29_ : v47 = (Pt n__b n__o) := hF.1
      clear hF
      refine doesG_un rfl ?_
      obtain rfl := h29_
      refine (does_fieldAddr (ev rfl) fa102_1).mono ?_; rintro _ _ ⟨rfl, rfl⟩
      exact ⟨rfl, Ext.refl _⟩
    refine RW_d _ rfl (fun v => by dsimp only [List.set]; try rfl) (fun u hu hF => ?_) (fun v49 => ?_)
    · have h30_ : v48 = (Pt n__b (n__o + 1)) := hF.1
      clear hF
      refine doesG_un rfl ?_
      obtain rfl := h30_
      refine (does_load (u := (Iv A_n_.a)) (ev rfl) Try.isAgg2 (Cells.at ((hc_n_.ext X43).ext hu) 1 rfl)).mono ?_; rintro _ _ ⟨rfl, rfl⟩
      exact ⟨rfl, Ext.refl _⟩
    refine RW_d _ rfl (fun v => by dsimp only [List.set]; try rfl) (fun u hu hF => ?_) (fun v50 => ?_)
    · have h31_ : v49 = (Iv A_n_.a) := hF.1
      clear hF
      refine doesG_un rfl ?_
      obtain rfl := h31_
      refine (does_icmp (p := A_n_.a) (q := 0) (.inl rfl) (ev rfl) (ev rfl)).mono ?_; rintro _ _ ⟨rfl, rfl⟩
      exact ⟨rfl, Ext.refl _⟩
    refine RW_d _ rfl (fun v => by dsimp only [List.set]; try rfl) (fun u hu hF => ?_) (fun v51 => ?_)
    · have h32_ : v50 = (Bo (icmp .eql A_n_.a 0)) := hF.1
      clear hF
      refine doesG_un rfl ?_
      obtain rfl := h32_
      refine (does_move (u := (Bo (icmp .eql A_n_.a 0))) (ev rfl)).mono ?_; rintro _ _ ⟨rfl, rfl⟩
      exact ⟨rfl, Ext.refl _⟩
    refine RW_d _ rfl (fun v => by dsimp only [List.set]; try rfl) (fun u hu hF => ?_) (fun v52 => ?_)
    · have h33_ : v51 = (Bo (icmp .eql A_n_.a 0)) := hF.1
      clear hF
      obtain rfl := h33_
      refine doesG_g (b := (icmp .eql A_n_.a 0)) rfl (yld rfl rfl) (fun hg1 => ?_) (fun hc => ⟨fun hg1 => absurd hg1 hc, Ext.refl _⟩)
      refine (does_move (u := (Pt n__b n__o)) (ev rfl)).mono ?_; rintro _ _ ⟨rfl, rfl⟩
      exact ⟨fun _ => rfl, Ext.refl _⟩
    refine RW_d _ rfl (fun v => by dsimp only [List.set]; try rfl) (fun u hu hF => ?_) (fun v53 => ?_)
    · have h34_ : (icmp .eql A_n_.a 0) = true → v52 = (Pt n__b n__o) := hF.1
      have h33_ : v51 = (Bo (icmp .eql A_n_.a 0)) := hF.2.1
      clear hF
      obtain rfl := h33_
      refine doesG_g (b := (icmp .eql A_n_.a 0)) rfl (yld rfl rfl) (fun hg1 => ?_) (fun hc => ⟨fun hg1 => absurd hg1 hc, Ext.refl _⟩)
      obtain rfl := h34_ hg1
      refine (does_nilCheck (ev rfl)).mono ?_; rintro _ _ ⟨rfl, rfl⟩
      exact ⟨fun _ => rfl, Ext.refl _⟩
    refine RW_d _ rfl (fun v => by dsimp only [List.set]; try rfl) (fun u hu hF => ?_) (fun v54 => ?_)
    · have h35_ : (icmp .eql A_n_.a 0) = true → v53 = (Pt n__b n__o) := hF.1
      have h33_ : v51 = (Bo (icmp .eql A_n_.a 0)) := hF.2.1
      clear hF
      obtain rfl := h33_
      refine doesG_g (b := (icmp .eql A_n_.a 0)) rfl (yld rfl rfl) (fun hg1 => ?_) (fun hc => ⟨fun hg1 => absurd hg1 hc, Ext.refl _⟩)
      obtain rfl := h35_ hg1
      refine (does_fieldAddr (ev rfl) fa102_2).mono ?_; rintro _ _ ⟨rfl, rfl⟩
      exact ⟨fun _ => rfl, Ext.refl _⟩
    refine RW_d _ rfl (fun v => by dsimp only [List.set]; try rfl) (fun u hu hF => ?_) (fun v55 => ?_)
    · have h36_ : (icmp .eql A_n_.a 0) = true → v54 = (Pt n__b (n__o + 2)) := hF.1
      have h33_ : v51 = (Bo (icmp .eql A_n_.a 0)) := hF.2.1
      clear hF
      obtain rfl := h33_
      refine doesG_g (b := (icmp .eql A_n_.a 0)) rfl (yld rfl rfl) (fun hg1 => ?_) (fun hc => ⟨fun hg1 => absurd hg1 hc, Ext.refl _⟩)
      obtain rfl := h36_ hg1
      refine (does_load (u := (Iv A_n_.b)) (ev rfl) Try.isAgg2 (Cells.at ((hc_n_.ext X43).ext hu) 2 rfl)).mono ?_; rintro _ _ ⟨rfl, rfl⟩
      exact ⟨fun _ => rfl, Ext.refl _⟩
    refine RW_d _ rfl (fun v => by dsimp only [List.set]; try rfl) (fun u hu hF => ?_) (fun v56 => ?_)
    · have h37_ : (icmp .eql A_n_.a 0) = true → v55 = (Iv A_n_.b) := hF.1
      have h33_ : v51 = (Bo (icmp .eql A_n_.a 0)) := hF.2.1
      clear hF
      obtain rfl := h33_
      refine doesG_g (b := (icmp .eql A_n_.a 0)) rfl (yld rfl rfl) (fun hg1 => ?_) (fun hc => ⟨fun hg1 => absurd hg1 hc, Ext.refl _⟩)
      obtain rfl := h37_ hg1
      refine (does_icmp (p := A_n_.b) (q := 0) (.inl rfl) (ev rfl) (ev rfl)).mono ?_; rintro _ _ ⟨rfl, rfl⟩
      exact ⟨fun _ => rfl, Ext.refl _⟩
    refine RW_d _ rfl (fun v => by dsimp only [List.set]; try rfl) (fun u hu hF => ?_) (fun v57 => ?_)
    · have h33_ : v51 = (Bo (icmp .eql A_n_.a 0)) := hF.1
      have h38_ : (icmp .eql A_n_.a 0) = true → v56 = (Bo (icmp .eql A_n_.b 0)) := hF.2.1
      clear hF
      refine doesG_un rfl ?_
      skip
      obtain rfl := h33_
      refine (does_pick (b := (icmp .eql A_n_.a 0)) (u := v56) (v := (Bo false)) (ev rfl) (ev rfl) (ev rfl)).mono ?_; rintro _ _ ⟨rfl, rfl⟩; refine ⟨?_, Ext.refl _⟩; rw [hβ3]; skip
      cases hbb : (icmp .eql A_n_.a 0)
      all_goals first | (show _ = _; simp only [↓reduceIte, Bool.true_and, Bool.false_and, Bool.true_or, Bool.false_or, Bool.false_eq_true]; done) | (have e_ := h38_ hbb; subst e_; show _ = _; simp only [↓reduceIte, Bool.true_and, Bool.false_and, Bool.true_or, Bool.false_or, Bool.false_eq_true]; done) | rfl | (have e_ := h38_ hbb; subst e_; rfl) | (simp [hbb] at h38_ ⊢; first | done | rfl | (subst h38_; rfl) | simp_all) | (simp [hbb] at h38_ ⊢; done)
    refine RW_fin ?_; intro w58 E59 hP60
    obtain ⟨⟨⟨⟨⟨⟨⟨⟨⟨⟨⟨⟨-, -⟩, -⟩, -⟩, -⟩, -⟩, -⟩, -⟩, -⟩, -⟩, -⟩, -⟩, q61⟩ := hP60
    have X62 := Ext.gr X43 E59
    have q61 : v57 = (Bo β3) := q61
    obtain rfl := q61
    show wpList _ _ _ _ (fr [_, _, _, _, _, _, _, _, _, _, _, _, _, _, _, _, _, _, _, _, _, _, _, _, _, _, _, _, _, _, _, _, _, _, _, _, _, _, _, _, _, _, _, _, _, _, _, _, _, _, _, _, _, _, _, _, _, _, _, _, _, _, _, _, _, _, _, _, _, _, _, _, _, _, _]) _
    refine q_is rfl rfl (does_assign (u := (Bo β3)) (ev rfl)) (by dsimp only [List.set]; try rfl) ?_
    refine wpList_nil (hK45 _ _ ?_)
    refine wp_ret ?_
    dsimp only [Exit.then, Exit.inBlock]
    refine ret_val (v := (Bo β3)) (res_T rfl (slot rfl)) X62 ?_
    try simp only [hβ1, hβ2, hβ3] at c36 c44
    have x63 : (nodeIn A_n_ i_) = β3 := by first | exact nodeIn_0 (by assumption) | (rw [nodeIn_t (by assumption)]; simp only [*, if_true, if_false, Bool.false_eq_true, Bool.true_and, Bool.false_and, Bool.and_false, ↓reduceIte]; done)
    exact (by first | with_reducible rfl | rw [x63] | rfl)
  have c44' := c44
  (try simp only [hβ1, hβ2] at c44')
  (try simp only [icmp, Bool.and_eq_true, Bool.or_eq_true, Bool.and_eq_false_iff, Bool.or_eq_false_iff, Bool.not_eq_true', Bool.not_eq_false', decide_eq_true_eq, decide_eq_false_iff_not, beq_iff_eq, bne_iff_ne, beq_eq_false_iff_ne, bne_eq_false_iff_eq] at c44')
  refine wp_skip (hK39 _ _ ?_)
  refine wp_seq_k fun K64 hK64 => ?_
  refine wp_seq_k fun K65 hK65 => ?_
  refine wp_region_lit ?_
  refine q_is rfl rfl (does_move (u := (Pt n__b n__o)) (ev rfl)) (by dsimp only [List.set]; try rfl) ?_
  refine q_is rfl rfl (does_nilCheck (ev rfl)) (by dsimp only [List.set]; try rfl) ?_
  refine q_is rfl rfl (does_fieldAddr (ev rfl) fa102_1) (by dsimp only [List.set]; try rfl) ?_
  refine q_is rfl rfl (does_load (u := (Iv A_n_.a)) (ev rfl) Try.isAgg2 (Cells.at (hc_n_.ext X43) 1 rfl)) (by dsimp only [List.set]; try rfl) ?_
  refine q_is rfl rfl (does_move (u := (Iv i_)) (ev rfl)) (by dsimp only [List.set]; try rfl) ?_
  refine q_is rfl rfl (does_iarith (p := i_) (q := 1) (r := i_ - 1) (ev rfl) (ev rfl) (.inr (.inl ⟨rfl, (in_i64 (by omega) (by omega)).symm⟩))) (by dsimp only [List.set]; try rfl) ?_
  refine seqd rfl rfl (does_call (args := #[(Iv A_n_.a), (Iv 0), (Iv (i_ - 1))]) cal66 (evs rfl) (c_spec_l00In A_n_.a 0 (i_ - 1) _)) ?_; rintro _ w67 ⟨E66, rfl⟩
  have X68 := Ext.gr X43 E66
  show wpList _ _ _ _ (fr [_, _, _, _, _, _, _, _, _, _, _, _, _, _, _, _, _, _, _, _, _, _, _, _, _, _, _, _, _, _, _, _, _, _, _, _, _, _, _, _, _, _, _, _, _, _, _, _, _, _, _, _, _, _, _, _, _, _, _, _, _, _, _, _, _, _, _, _, _, _, _, _, _, _, _]) _
  refine q_is rfl rfl (does_not (ev rfl)) (by dsimp only [List.set]; try rfl) ?_
  refine wpList_nil (hK65 _ _ ?_)
  refine wp_cond_split (t := !(inI A_n_.a 0 (i_ - 1))) (ev rfl) (fun c69 => ?_) (fun c69 => ?_)
  · rw [Bool.not_eq_true'] at c69
    have c69' := c69
    (try simp only [hβ1, hβ2] at c69')
    (try simp only [icmp, Bool.and_eq_true, Bool.or_eq_true, Bool.and_eq_false_iff, Bool.or_eq_false_iff, Bool.not_eq_true', Bool.not_eq_false', decide_eq_true_eq, decide_eq_false_iff_not, beq_iff_eq, bne_iff_ne, beq_eq_false_iff_ne, bne_eq_false_iff_eq] at c69')
    refine wp_seq_k fun K70 hK70 => ?_
    refine wp_region_lit ?_
    refine q_is rfl rfl (does_assign (u := (Bo false)) (ev rfl)) (by dsimp only [List.set]; try rfl) ?_
    refine wpList_nil (hK70 _ _ ?_)
    refine wp_ret ?_
    dsimp only [Exit.then, Exit.inBlock]
    refine ret_val (v := (Bo false)) (res_T rfl (slot rfl)) X68 ?_
    try simp only [hβ1, hβ2] at c36 c44 c69
    have x71 : (nodeIn A_n_ i_) = false := by first | exact nodeIn_0 (by assumption) | (rw [nodeIn_t (by assumption)]; simp only [*, if_true, if_false, Bool.false_eq_true, Bool.true_and, Bool.false_and, Bool.and_false, ↓reduceIte]; done)
    exact (by first | with_reducible rfl | rw [x71] | rfl)
  rw [Bool.not_eq_false'] at c69
  have c69' := c69
  (try simp only [hβ1, hβ2] at c69')
  (try simp only [icmp, Bool.and_eq_true, Bool.or_eq_true, Bool.and_eq_false_iff, Bool.or_eq_false_iff, Bool.not_eq_true', Bool.not_eq_false', decide_eq_true_eq, decide_eq_false_iff_not, beq_iff_eq, bne_iff_ne, beq_eq_false_iff_ne, bne_eq_false_iff_eq] at c69')
  refine wp_skip (hK64 _ _ ?_)
  refine wp_seq_k fun K72 hK72 => ?_
  refine wp_seq_k fun K73 hK73 => ?_
  refine wp_region_lit ?_
  refine q_is rfl rfl (does_move (u := (Pt n__b n__o)) (ev rfl)) (by dsimp only [List.set]; try rfl) ?_
  refine q_is rfl rfl (does_nilCheck (ev rfl)) (by dsimp only [List.set]; try rfl) ?_
  refine q_is rfl rfl (does_fieldAddr (ev rfl) fa102_0) (by dsimp only [List.set]; try rfl) ?_
  refine q_is rfl rfl (does_load (u := (Iv A_n_.kind)) (ev rfl) Try.isAgg2 (Cells.at (hc_n_.ext X68) 0 rfl)) (by dsimp only [List.set]; try rfl) ?_
  refine seqd rfl rfl (does_call (args := #[(Iv A_n_.kind)]) cal51 (evs rfl) (c_spec_l02Two A_n_.kind _)) ?_; rintro _ w75 ⟨E74, rfl⟩
  have X76 := Ext.gr X68 E74
  show wpList _ _ _ _ (fr [_, _, _, _, _, _, _, _, _, _, _, _, _, _, _, _, _, _, _, _, _, _, _, _, _, _, _, _, _, _, _, _, _, _, _, _, _, _, _, _, _, _, _, _, _, _, _, _, _, _, _, _, _, _, _, _, _, _, _, _, _, _, _, _, _, _, _, _, _, _, _, _, _, _, _]) _
  refine wpList_nil (hK73 _ _ ?_)
  refine wp_cond_split (t := inI A_n_.kind 5 8) (ev rfl) (fun c77 => ?_) (fun c77 => ?_)
  · have c77' := c77
    (try simp only [hβ1, hβ2] at c77')
    (try simp only [icmp, Bool.and_eq_true, Bool.or_eq_true, Bool.and_eq_false_iff, Bool.or_eq_false_iff, Bool.not_eq_true', Bool.not_eq_false', decide_eq_true_eq, decide_eq_false_iff_not, beq_iff_eq, bne_iff_ne, beq_eq_false_iff_ne, bne_eq_false_iff_eq] at c77')
    refine wp_seq_k fun K78 hK78 => ?_
    refine wp_region_lit ?_
    refine q_is rfl rfl (does_move (u := (Pt n__b n__o)) (ev rfl)) (by dsimp only [List.set]; try rfl) ?_
    refine q_is rfl rfl (does_nilCheck (ev rfl)) (by dsimp only [List.set]; try rfl) ?_
    refine q_is rfl rfl (does_fieldAddr (ev rfl) fa102_2) (by dsimp only [List.set]; try rfl) ?_
    refine q_is rfl rfl (does_load (u := (Iv A_n_.b)) (ev rfl) Try.isAgg2 (Cells.at (hc_n_.ext X76) 2 rfl)) (by dsimp only [List.set]; try rfl) ?_
    refine q_is rfl rfl (does_move (u := (Iv i_)) (ev rfl)) (by dsimp only [List.set]; try rfl) ?_
    refine q_is rfl rfl (does_iarith (p := i_) (q := 1) (r := i_ - 1) (ev rfl) (ev rfl) (.inr (.inl ⟨rfl, (in_i64 (by omega) (by omega)).symm⟩))) (by dsimp only [List.set]; try rfl) ?_
    refine seqd rfl rfl (does_call (args := #[(Iv A_n_.b), (Iv 0), (Iv (i_ - 1))]) cal66 (evs rfl) (c_spec_l00In A_n_.b 0 (i_ - 1) _)) ?_; rintro _ w80 ⟨E79, rfl⟩
    have X81 := Ext.gr X76 E79
    show wpList _ _ _ _ (fr [_, _, _, _, _, _, _, _, _, _, _, _, _, _, _, _, _, _, _, _, _, _, _, _, _, _, _, _, _, _, _, _, _, _, _, _, _, _, _, _, _, _, _, _, _, _, _, _, _, _, _, _, _, _, _, _, _, _, _, _, _, _, _, _, _, _, _, _, _, _, _, _, _, _, _]) _
    refine q_is rfl rfl (does_assign (u := (Bo (inI A_n_.b 0 (i_ - 1)))) (ev rfl)) (by dsimp only [List.set]; try rfl) ?_
    refine wpList_nil (hK78 _ _ ?_)
    refine wp_ret ?_
    dsimp only [Exit.then, Exit.inBlock]
    refine ret_val (v := (Bo (inI A_n_.b 0 (i_ - 1)))) (res_T rfl (slot rfl)) X81 ?_
    try simp only [hβ1, hβ2] at c36 c44 c69 c77
    have x82 : (nodeIn A_n_ i_) = (inI A_n_.b 0 (i_ - 1)) := by first | exact nodeIn_0 (by assumption) | (rw [nodeIn_t (by assumption)]; simp only [*, if_true, if_false, Bool.false_eq_true, Bool.true_and, Bool.false_and, Bool.and_false, ↓reduceIte]; done)
    exact (by first | with_reducible rfl | rw [x82] | rfl)
  have c77' := c77
  (try simp only [hβ1, hβ2] at c77')
  (try simp only [icmp, Bool.and_eq_true, Bool.or_eq_true, Bool.and_eq_false_iff, Bool.or_eq_false_iff, Bool.not_eq_true', Bool.not_eq_false', decide_eq_true_eq, decide_eq_false_iff_not, beq_iff_eq, bne_iff_ne, beq_eq_false_iff_ne, bne_eq_false_iff_eq] at c77')
  refine wp_skip (hK72 _ _ ?_)
  refine wp_seq_k fun K83 hK83 => ?_
  refine wp_seq_k fun K84 hK84 => ?_
  refine wp_region_lit ?_
  refine q_is rfl rfl (does_move (u := (Pt n__b n__o)) (ev rfl)) (by dsimp only [List.set]; try rfl) ?_
  refine q_is rfl rfl (does_nilCheck (ev rfl)) (by dsimp only [List.set]; try rfl) ?_
  refine q_is rfl rfl (does_fieldAddr (ev rfl) fa102_0) (by dsimp only [List.set]; try rfl) ?_
  refine q_is rfl rfl (does_load (u := (Iv A_n_.kind)) (ev rfl) Try.isAgg2 (Cells.at (hc_n_.ext X76) 0 rfl)) (by dsimp only [List.set]; try rfl) ?_
  refine seqd rfl rfl (does_call (args := #[(Iv A_n_.kind)]) cal82 (evs rfl) (c_spec_l02Axis A_n_.kind _)) ?_; rintro _ w86 ⟨E85, rfl⟩
  have X87 := Ext.gr X76 E85
  show wpList _ _ _ _ (fr [_, _, _, _, _, _, _, _, _, _, _, _, _, _, _, _, _, _, _, _, _, _, _, _, _, _, _, _, _, _, _, _, _, _, _, _, _, _, _, _, _, _, _, _, _, _, _, _, _, _, _, _, _, _, _, _, _, _, _, _, _, _, _, _, _, _, _, _, _, _, _, _, _, _, _]) _
  refine wpList_nil (hK84 _ _ ?_)
  refine wp_cond_split (t := rlAx A_n_.kind) (ev rfl) (fun c88 => ?_) (fun c88 => ?_)
  · have c88' := c88
    (try simp only [hβ1, hβ2] at c88')
    (try simp only [icmp, Bool.and_eq_true, Bool.or_eq_true, Bool.and_eq_false_iff, Bool.or_eq_false_iff, Bool.not_eq_true', Bool.not_eq_false', decide_eq_true_eq, decide_eq_false_iff_not, beq_iff_eq, bne_iff_ne, beq_eq_false_iff_ne, bne_eq_false_iff_eq] at c88')
    refine wp_seq_k fun K89 hK89 => ?_
    refine wp_region_lit ?_
    refine q_is rfl rfl (does_move (u := (Pt n__b n__o)) (ev rfl)) (by dsimp only [List.set]; try rfl) ?_
    refine q_is rfl rfl (does_nilCheck (ev rfl)) (by dsimp only [List.set]; try rfl) ?_
    refine q_is rfl rfl (does_fieldAddr (ev rfl) fa102_2) (by dsimp only [List.set]; try rfl) ?_
    refine q_is rfl rfl (does_load (u := (Iv A_n_.b)) (ev rfl) Try.isAgg2 (Cells.at (hc_n_.ext X87) 2 rfl)) (by dsimp only [List.set]; try rfl) ?_
    refine seqd rfl rfl (does_call (args := #[(Iv A_n_.b), (Iv 0), (Iv 2)]) cal66 (evs rfl) (c_spec_l00In A_n_.b 0 2 _)) ?_; rintro _ w91 ⟨E90, rfl⟩
    have X92 := Ext.gr X87 E90
    show wpList _ _ _ _ (fr [_, _, _, _, _, _, _, _, _, _, _, _, _, _, _, _, _, _, _, _, _, _, _, _, _, _, _, _, _, _, _, _, _, _, _, _, _, _, _, _, _, _, _, _, _, _, _, _, _, _, _, _, _, _, _, _, _, _, _, _, _, _, _, _, _, _, _, _, _, _, _, _, _, _, _]) _
    refine q_is rfl rfl (does_assign (u := (Bo (inI A_n_.b 0 2))) (ev rfl)) (by dsimp only [List.set]; try rfl) ?_
    refine wpList_nil (hK89 _ _ ?_)
    refine wp_ret ?_
    dsimp only [Exit.then, Exit.inBlock]
    refine ret_val (v := (Bo (inI A_n_.b 0 2))) (res_T rfl (slot rfl)) X92 ?_
    try simp only [hβ1, hβ2] at c36 c44 c69 c77 c88
    have x93 : (nodeIn A_n_ i_) = (inI A_n_.b 0 2) := by first | exact nodeIn_0 (by assumption) | (rw [nodeIn_t (by assumption)]; simp only [*, if_true, if_false, Bool.false_eq_true, Bool.true_and, Bool.false_and, Bool.and_false, ↓reduceIte]; done)
    exact (by first | with_reducible rfl | rw [x93] | rfl)
  have c88' := c88
  (try simp only [hβ1, hβ2] at c88')
  (try simp only [icmp, Bool.and_eq_true, Bool.or_eq_true, Bool.and_eq_false_iff, Bool.or_eq_false_iff, Bool.not_eq_true', Bool.not_eq_false', decide_eq_true_eq, decide_eq_false_iff_not, beq_iff_eq, bne_iff_ne, beq_eq_false_iff_ne, bne_eq_false_iff_eq] at c88')
  refine wp_skip (hK83 _ _ ?_)
  refine wp_seq_k fun K94 hK94 => ?_
  refine wp_region_lit ?_
  refine q_is rfl rfl (does_move (u := (Pt n__b n__o)) (ev rfl)) (by dsimp only [List.set]; try rfl) ?_
  refine q_is rfl rfl (does_nilCheck (ev rfl)) (by dsimp only [List.set]; try rfl) ?_
  refine q_is rfl rfl (does_fieldAddr (ev rfl) fa102_2) (by dsimp only [List.set]; try rfl) ?_
  refine q_is rfl rfl (does_load (u := (Iv A_n_.b)) (ev rfl) Try.isAgg2 (Cells.at (hc_n_.ext X87) 2 rfl)) (by dsimp only [List.set]; try rfl) ?_
  refine q_is rfl rfl (does_icmp (p := A_n_.b) (q := 0) (.inl rfl) (ev rfl) (ev rfl)) (by dsimp only [List.set]; try rfl) ?_
  refine q_is rfl rfl (does_assign (u := (Bo (icmp .eql A_n_.b 0))) (ev rfl)) (by dsimp only [List.set]; try rfl) ?_
  refine wpList_nil (hK94 _ _ ?_)
  refine wp_ret ?_
  refine ret_val (v := (Bo (icmp .eql A_n_.b 0))) (res_T rfl (slot rfl)) X87 ?_
  try simp only [hβ1, hβ2] at c36 c44 c69 c77 c88
  have x95 : (nodeIn A_n_ i_) = (icmp .eql A_n_.b 0) := by first | exact nodeIn_0 (by assumption) | (rw [nodeIn_t (by assumption)]; simp only [*, if_true, if_false, Bool.false_eq_true, Bool.true_and, Bool.false_and, Bool.and_false, ↓reduceIte]; done)
  exact (by first | with_reducible rfl | rw [x95] | rfl)

/- spec.l02Is -/
theorem c_spec_l02Is (s__b : Nat) (s__o : Nat) (s_ : List Value) (A_s_ : ShapeT) (w : World) (hc_s_ : Cells w s__b s__o s_) (hv_s_ : RShapeT w A_s_ s_) : Gives Try.prog 23 #[(Pt s__b s__o)] w (fun v w' => v = (Bo (isShape A_s_))) := by
  obtain ⟨y1, rfl, h2⟩ := hv_s_
  have hs5 := h2; have hs5l := Sl.len h2; obtain ⟨p3, q4, rfl⟩ := Sl.shape h2
  refine enter [(Pt s__b s__o), Ud, Ud, Ud, Ud, Ud, Ud, Ud, Ud, Ud, Ud, Ud, Ud, Ud, Ud, Ud, Ud, Ud, Ud, Ud, Ud, Ud, Ud, Ud, Ud, Ud, Ud, Ud, Ud, Ud, Ud, Ud, Ud, Ud, Ud, Ud, Ud, Ud, Ud, Ud, Ud, Ud, Ud, Ud, Ud, Ud, Ud, Ud, Ud, Ud, Ud, Ud, Ud, Ud, Ud, Ud, Ud, Ud, Ud, Ud, Ud, Ud, Ud, Ud, Ud, Ud, Ud, Ud, Ud, Ud, Ud, Ud, Ud, Ud, Ud, Ud] Try.func23 rfl Try.ntmps23 rfl ?_
  refine wp_seq_k fun K6 hK6 => ?_
  refine wp_region_lit ?_
  refine q_is rfl rfl (does_assign (u := (Bo false)) (ev rfl)) (by dsimp only [List.set]; try rfl) ?_
  refine wpList_nil (hK6 _ _ ?_)
  refine wp_seq_k fun K7 hK7 => ?_
  refine wp_region_lit ?_
  refine q_is rfl rfl (does_move (u := (Pt s__b s__o)) (ev rfl)) (by dsimp only [List.set]; try rfl) ?_
  refine q_is rfl rfl (does_nilCheck (ev rfl)) (by dsimp only [List.set]; try rfl) ?_
  refine q_is rfl rfl (does_fieldAddr (ev rfl) fa30_0) (by dsimp only [List.set]; try rfl) ?_
  refine q_is rfl rfl (does_load (u := (.slice p3 A_s_.nodes.length q4)) (ev rfl) Try.isAgg28 (Cells.at hc_s_ 0 rfl)) (by dsimp only [List.set]; try rfl) ?_
  refine q_is rfl rfl (does_len_slice Try.underlying28 (ev rfl)) (by dsimp only [List.set]; try rfl) ?_
  refine q_is rfl rfl (does_assign (u := (Iv (A_s_.nodes.length : Int))) (ev rfl)) (by dsimp only [List.set]; try rfl) ?_
  refine wpList_nil (hK7 _ _ ?_)
  refine wp_seq_k fun K8 hK8 => ?_
  refine wp_seq_k fun K9 hK9 => ?_
  obtain ⟨β1, hβ1⟩ : ∃ b : Bool, b = (icmp .lss (A_s_.nodes.length : Int) 1) := ⟨_, rfl⟩
  obtain ⟨β2, hβ2⟩ : ∃ b : Bool, b = (icmp .gtr (A_s_.nodes.length : Int) 16) := ⟨_, rfl⟩
  refine region_text (
    [Fact.pure [] (fun v => v = (Iv (A_s_.nodes.length : Int))),
    Fact.pure [13] (fun v => v = (Bo β1)),
    Fact.pure [14] (fun v => v = (Bo β1)),
    Fact.pure [15] (fun v => β1 = false → v = (Iv (A_s_.nodes.length : Int))),
    Fact.pure [16, 15] (fun v => β1 = false → v = (Bo β2)),
    Fact.pure [15, 17] (fun v => v = (Bo (β1 || β2)))]) (by simp [Fact.pure, Fact.mem]) ?_
  refine RW_d _ rfl (fun v => by dsimp only [List.set]; try rfl) (fun u hu hF => ?_) (fun v10 => ?_)
  · clear hF
    refine doesG_un rfl ?_
    refine (does_move (u := (Iv (A_s_.nodes.length : Int))) (ev rfl)).mono ?_; rintro _ _ ⟨rfl, rfl⟩
    exact ⟨rfl, Ext.refl _⟩
  refine RW_d _ rfl (fun v => by dsimp only [List.set]; try rfl) (fun u hu hF => ?_) (fun v11 => ?_)
  · have h13_ : v10 = (Iv (A_s_.nodes.length : Int)) := hF.1
    clear hF
    refine doesG_un rfl ?_
    obtain rfl := h13_
    refine (does_icmp (p := (A_s_.nodes.length : Int)) (q := 1) (.inr (.inr (.inl rfl))) (ev rfl) (ev rfl)).mono ?_; rintro _ _ ⟨rfl, rfl⟩
    exact ⟨(by first | rfl | (show _ = _; simp only [hβ1]; done) | (show _ = _; simp only [hβ1]; rfl)), Ext.refl _⟩
  refine RW_d _ rfl (fun v => by dsimp only [List.set]; try rfl) (fun u hu hF => ?_) (fun v12 => ?_)
  · have h14_ : v11 = (Bo β1) := hF.1
    clear hF
    refine doesG_un rfl ?_
    obtain rfl := h14_
    refine (does_move (u := (Bo β1)) (ev rfl)).mono ?_; rintro _ _ ⟨rfl, rfl⟩
    exact ⟨rfl, Ext.refl _⟩
  refine RW_d _ rfl (fun v => by dsimp only [List.set]; try rfl) (fun u hu hF => ?_) (fun v13 => ?_)
  · have h15_ : v12 = (Bo β1) := hF.1
    clear hF
    obtain rfl := h15_
    refine doesG_g (b := β1) rfl (yld rfl rfl) (fun hg1 => ?_) (fun hc => ⟨fun hg1 => absurd hg1 hc, Ext.refl _⟩)
    refine (does_move (u := (Iv (A_s_.nodes.length : Int))) (ev rfl)).mono ?_; rintro _ _ ⟨rfl, rfl⟩
    exact ⟨fun _ => rfl, Ext.refl _⟩
  refine RW_d _ rfl (fun v => by dsimp only [List.set]; try rfl) (fun u hu hF => ?_) (fun v14 => ?_)
  · have h16_ : β1 = false → v13 = (Iv (A_s_.nodes.length : Int)) := hF.1
    have h15_ : v12 = (Bo β1) := hF.2.1
    clear hF
    obtain rfl := h15_
    refine doesG_g (b := β1) rfl (yld rfl rfl) (fun hg1 => ?_) (fun hc => ⟨fun hg1 => absurd hg1 hc, Ext.refl _⟩)
    obtain rfl := h16_ hg1
    refine (does_icmp (p := (A_s_.nodes.length : Int)) (q := 16) (.inr (.inr (.inr (.inr (.inl rfl))))) (ev rfl) (ev rfl)).mono ?_; rintro _ _ ⟨rfl, rfl⟩
    exact ⟨fun _ => (by first | rfl | (show _ = _; simp only [hβ2]; done) | (show _ = _; simp only [hβ2]; rfl)), Ext.refl _⟩
  refine RW_d _ rfl (fun v => by dsimp only [List.set]; try rfl) (fun u hu hF => ?_) (fun v15 => ?_)
  · have h15_ : v12 = (Bo β1) := hF.1
    have h17_ : β1 = false → v14 = (Bo β2) := hF.2.1
    clear hF
    refine doesG_un rfl ?_
    skip
    obtain rfl := h15_
    refine (does_pick (b := β1) (u := (Bo true)) (v := v14) (ev rfl) (ev rfl) (ev rfl)).mono ?_; rintro _ _ ⟨rfl, rfl⟩; refine ⟨?_, Ext.refl _⟩; skip
    cases hbb : β1
    all_goals first | (show _ = _; simp only [↓reduceIte, Bool.true_and, Bool.false_and, Bool.true_or, Bool.false_or, Bool.false_eq_true]; done) | (have e_ := h17_ hbb; subst e_; show _ = _; simp only [↓reduceIte, Bool.true_and, Bool.false_and, Bool.true_or, Bool.false_or, Bool.false_eq_true]; done) | rfl | (have e_ := h17_ hbb; subst e_; rfl) | (simp [hbb] at h17_ ⊢; first | done | rfl | (subst h17_; rfl) | simp_all) | (simp [hbb] at h17_ ⊢; done)
  refine RW_fin ?_; intro w16 E17 hP18
  obtain ⟨⟨⟨⟨⟨⟨-, -⟩, -⟩, -⟩, -⟩, -⟩, q19⟩ := hP18
  have X20 := Ext.gr (Ext.refl w) E17
  have q19 : v15 = (Bo (β1 || β2)) := q19
  obtain rfl := q19
  show wpList _ _ _ _ (fr [_, _, _, _, _, _, _, _, _, _, _, _, _, _, _, _, _, _, _, _, _, _, _, _, _, _, _, _, _, _, _, _, _, _, _, _, _, _, _, _, _, _, _, _, _, _, _, _, _, _, _, _, _, _, _, _, _, _, _, _, _, _, _, _, _, _, _, _, _, _, _, _, _, _, _, _]) _
  refine wpList_nil (hK9 _ _ ?_)
  refine wp_cond_split (t := β1 || β2) (ev rfl) (fun c21 => ?_) (fun c21 => ?_)
  · have c21' := c21
    (try simp only [hβ1, hβ2] at c21')
    (try simp only [icmp, Bool.and_eq_true, Bool.or_eq_true, Bool.and_eq_false_iff, Bool.or_eq_false_iff, Bool.not_eq_true', Bool.not_eq_false', decide_eq_true_eq, decide_eq_false_iff_not, beq_iff_eq, bne_iff_ne, beq_eq_false_iff_ne, bne_eq_false_iff_eq] at c21')
    refine wp_seq_k fun K22 hK22 => ?_
    refine wp_region_lit ?_
    refine q_is rfl rfl (does_assign (u := (Bo false)) (ev rfl)) (by dsimp only [List.set]; try rfl) ?_
    refine wpList_nil (hK22 _ _ ?_)
    refine wp_ret ?_
    dsimp only [Exit.then, Exit.inBlock]
    refine ret_val (v := (Bo false)) (res_T rfl (slot rfl)) X20 ?_
    try simp only [hβ1, hβ2] at c21
    have x23 : (isShape A_s_) = false := by first | exact isShape_len (by omega) | exact isShape_bad (by assumption) (by assumption) | exact isShape_one hb hok (by omega) hk (by omega) (by assumption) (by omega) | exact isShape_all hb hok (by omega) hk (fun i hi => hone i (by omega))
    exact (by first | with_reducible rfl | rw [x23] | rfl)
  have c21' := c21
  (try simp only [hβ1, hβ2] at c21')
  (try simp only [icmp, Bool.and_eq_true, Bool.or_eq_true, Bool.and_eq_false_iff, Bool.or_eq_false_iff, Bool.not_eq_true', Bool.not_eq_false', decide_eq_true_eq, decide_eq_false_iff_not, beq_iff_eq, bne_iff_ne, beq_eq_false_iff_ne, bne_eq_false_iff_eq] at c21')
  have hb : 1 ≤ (A_s_.nodes.length : Int) ∧ (A_s_.nodes.length : Int) ≤ 16 := by omega
  refine wp_skip (hK8 _ _ ?_)
  refine wp_seq_k fun K24 hK24 => ?_
  refine wp_region_lit ?_
  refine q_is rfl rfl (does_move (u := (Iv (A_s_.nodes.length : Int))) (ev rfl)) (by dsimp only [List.set]; try rfl) ?_
  refine seqd rfl rfl (does_makeSlice (n := A_s_.nodes.length) Try.underlying100 inf2 (ev rfl) (ev rfl) (by omega)) ?_; rintro _ w29 ⟨b25, rfl, hb26, ⟨cs30, hB27, hl31, hz32⟩, E28⟩
  have n33 : s__b < b25 := Nat.lt_of_lt_of_le (cell_lt (Cells.at (hc_s_.ext X20) 0 rfl)) hb26
  have g34 : w.heap.size ≤ b25 := Nat.le_trans (Below.size X20) hb26
  have X35 := Ext.gr X20 E28
  have hR36 : RowG RI 1 w29 b25 (List.replicate A_s_.nodes.length (0 : Int)) := RowG.made (z := (.int .i64 0)) hB27 rfl rfl hz32 rfl
  show wpList _ _ _ _ (fr [_, _, _, _, _, _, _, _, _, _, _, _, _, _, _, _, _, _, _, _, _, _, _, _, _, _, _, _, _, _, _, _, _, _, _, _, _, _, _, _, _, _, _, _, _, _, _, _, _, _, _, _, _, _, _, _, _, _, _, _, _, _, _, _, _, _, _, _, _, _, _, _, _, _, _, _]) _
  refine q_is rfl rfl (does_assign (u := (.slice (some ⟨b25, 0, none⟩) A_s_.nodes.length A_s_.nodes.length)) (ev rfl)) (by dsimp only [List.set]; try rfl) ?_
  refine wpList_nil (hK24 _ _ ?_)
  refine wp_seq_k fun K37 hK37 => ?_
  refine wp_seq_k fun K38 hK38 => ?_
  refine wp_region_lit ?_
  refine q_is rfl rfl (does_assign (u := (Iv 0)) (ev rfl)) (by dsimp only [List.set]; try rfl) ?_
  refine wpList_nil (hK38 _ _ ?_)
  refine wp_block ?_
  refine loop_ghost (σ := Nat) (fun k a w' => ∃ u39 : Nat → Value, a = fr [(Pt s__b s__o), Ud, (u39 2), (Iv (A_s_.nodes.length : Int)), (.slice (some ⟨b25, 0, none⟩) A_s_.nodes.length A_s_.nodes.length), (Iv (k : Int)), (u39 6), Ud, (Pt s__b s__o), (Pt s__b s__o), (Pt s__b s__o), (.slice p3 A_s_.nodes.length q4), (Iv (A_s_.nodes.length : Int)), v10, v11, v12, v13, v14, (Bo (β1 || β2)), (Iv (A_s_.nodes.length : Int)), (.slice (some ⟨b25, 0, none⟩) A_s_.nodes.length A_s_.nodes.length), (u39 21), (u39 22), (u39 23), (u39 24), (u39 25), (u39 26), (u39 27), (u39 28), (u39 29), (u39 30), (u39 31), (u39 32), (u39 33), (u39 34), (u39 35), (u39 36), (u39 37), (u39 38), (u39 39), (u39 40), (u39 41), (u39 42), (u39 43), (u39 44), (u39 45), (u39 46), (u39 47), (u39 48), (u39 49), (u39 50), (u39 51), (u39 52), (u39 53), (u39 54), (u39 55), (u39 56), (u39 57), (u39 58), (u39 59), (u39 60), (u39 61), (u39 62), (u39 63), (u39 64), Ud, Ud, Ud, Ud, Ud, Ud, Ud, Ud, Ud, Ud, Ud] ∧ KpL [b25] w29 w' ∧ RowG RI 1 w' b25 (useTo A_s_.nodes k) ∧ (k ≤ A_s_.nodes.length ∧ OkTo A_s_.nodes k)) (fun k => A_s_.nodes.length - k) 0 ?_ ?_
  · refine ⟨fun t => (([(Pt s__b s__o), Ud, (Bo false), (Iv (A_s_.nodes.length : Int)), (.slice (some ⟨b25, 0, none⟩) A_s_.nodes.length A_s_.nodes.length), (Iv 0), Ud, Ud, (Pt s__b s__o), (Pt s__b s__o), (Pt s__b s__o), (.slice p3 A_s_.nodes.length q4), (Iv (A_s_.nodes.length : Int)), v10, v11, v12, v13, v14, (Bo (β1 || β2)), (Iv (A_s_.nodes.length : Int)), (.slice (some ⟨b25, 0, none⟩) A_s_.nodes.length A_s_.nodes.length), Ud, Ud, Ud, Ud, Ud, Ud, Ud, Ud, Ud, Ud, Ud, Ud, Ud, Ud, Ud, Ud, Ud, Ud, Ud, Ud, Ud, Ud, Ud, Ud, Ud, Ud, Ud, Ud, Ud, Ud, Ud, Ud, Ud, Ud, Ud, Ud, Ud, Ud, Ud, Ud, Ud, Ud, Ud, Ud, Ud, Ud, Ud, Ud, Ud, Ud, Ud, Ud, Ud, Ud, Ud] : List Value)[t]?).getD undef, rfl, KpL.refl _ _, (RowG.cast hR36 (by (try dsimp only); rfl)), ?_⟩
    exact ⟨Nat.zero_le _, OkTo.zero⟩
  · rintro k a w40 ⟨u39, rfl, E41, hRg0, ⟨hk, hok⟩⟩
    have X43 := Below.kl X35 E41 (allS g34 all0) (Nat.le_refl _)
    have hR44 := hRg0; clear hRg0
    refine wp_seq_k fun K45 hK45 => ?_
    refine wp_seq_k fun K46 hK46 => ?_
    refine wp_region_lit ?_
    refine q_is rfl rfl (does_move (u := (Iv (k : Int))) (ev rfl)) (by dsimp only [List.set]; try rfl) ?_
    refine q_is rfl rfl (does_move (u := (Iv (A_s_.nodes.length : Int))) (ev rfl)) (by dsimp only [List.set]; try rfl) ?_
    refine q_is rfl rfl (does_icmp (p := (k : Int)) (q := (A_s_.nodes.length : Int)) (.inr (.inr (.inl rfl))) (ev rfl) (ev rfl)) (by dsimp only [List.set]; try rfl) ?_
    refine wpList_nil (hK46 _ _ ?_)
    refine wp_cond_split (t := icmp .lss (k : Int) (A_s_.nodes.length : Int)) (ev rfl) (fun c47 => ?_) (fun c47 => ?_)
    · have c47' := c47
      (try simp only [hβ1, hβ2] at c47')
      (try simp only [icmp, Bool.and_eq_true, Bool.or_eq_true, Bool.and_eq_false_iff, Bool.or_eq_false_iff, Bool.not_eq_true', Bool.not_eq_false', decide_eq_true_eq, decide_eq_false_iff_not, beq_iff_eq, bne_iff_ne, beq_eq_false_iff_ne, bne_eq_false_iff_eq] at c47')
      refine wp_skip (hK45 _ _ ?_)
      refine wp_seq_k fun K48 hK48 => ?_
      refine wp_block ?_
      refine wp_seq_k fun K49 hK49 => ?_
      refine wp_region_lit ?_
      refine q_is rfl rfl (does_move (u := (Pt s__b s__o)) (ev rfl)) (by dsimp only [List.set]; try rfl) ?_
      refine q_is rfl rfl (does_nilCheck (ev rfl)) (by dsimp only [List.set]; try rfl) ?_
      refine q_is rfl rfl (does_fieldAddr (ev rfl) fa30_0) (by dsimp only [List.set]; try rfl) ?_
      refine q_is rfl rfl (does_load (u := (.slice p3 A_s_.nodes.length q4)) (ev rfl) Try.isAgg28 (Cells.at (hc_s_.ext X43) 0 rfl)) (by dsimp only [List.set]; try rfl) ?_
      refine q_is rfl rfl (does_move (u := (Iv (k : Int))) (ev rfl)) (by dsimp only [List.set]; try rfl) ?_
      obtain ⟨el1, hel1⟩ : ∃ e, A_s_.nodes[k]? = some e := ⟨_, List.getElem?_eq_getElem (by omega)⟩
      refine seqd rfl rfl (does_indexSl0 (R := RNodeT) (i := (k : Int)) (xs := A_s_.nodes) (e := el1) Try.underlying28 Try.sizeOf102 (ev rfl) (ev rfl) hs5 (by omega) hel1) ?_; rintro _ w40 ⟨b50, o51, _, rfl, hc53, ⟨y54, rfl, h55⟩, rfl⟩
      have hs58 := h55; have hs58l := Sl.len h55; obtain ⟨p56, q57, rfl⟩ := Sl.shape h55
      show wpList _ _ _ _ (fr [_, _, _, _, _, _, _, _, _, _, _, _, _, _, _, _, _, _, _, _, _, _, _, _, _, _, _, _, _, _, _, _, _, _, _, _, _, _, _, _, _, _, _, _, _, _, _, _, _, _, _, _, _, _, _, _, _, _, _, _, _, _, _, _, _, _, _, _, _, _, _, _, _, _, _, _]) _
      refine q_is rfl rfl (does_assign (u := (Pt b50 o51)) (ev rfl)) (by dsimp only [List.set]; try rfl) ?_
      refine wpList_nil (hK49 _ _ ?_)
      refine wp_seq_k fun K59 hK59 => ?_
      refine wp_seq_k fun K60 hK60 => ?_
      refine wp_region_lit ?_
      refine q_is rfl rfl (does_move (u := (Pt b50 o51)) (ev rfl)) (by dsimp only [List.set]; try rfl) ?_
      refine q_is rfl rfl (does_move (u := (Iv (k : Int))) (ev rfl)) (by dsimp only [List.set]; try rfl) ?_
      refine seqd rfl rfl (does_call (args := #[(Pt b50 o51), (Iv (k : Int))]) cal49 (evs rfl) (c_spec_l02Node b50 o51 [(Iv el1.kind), (Iv el1.a), (Iv el1.b), (.slice p56 el1.nums.length q57)] el1 (k : Int) _ (hc53.ext X43) ⟨(.slice p56 el1.nums.length q57), rfl, (Sl.ext hs58 RF.mono X43)⟩ (by omega))) ?_; rintro _ w62 ⟨E61, rfl⟩
      have X63 := Ext.gr X43 E61
      show wpList _ _ _ _ (fr [_, _, _, _, _, _, _, _, _, _, _, _, _, _, _, _, _, _, _, _, _, _, _, _, _, _, _, _, _, _, _, _, _, _, _, _, _, _, _, _, _, _, _, _, _, _, _, _, _, _, _, _, _, _, _, _, _, _, _, _, _, _, _, _, _, _, _, _, _, _, _, _, _, _, _, _]) _
      refine q_is rfl rfl (does_not (ev rfl)) (by dsimp only [List.set]; try rfl) ?_
      refine wpList_nil (hK60 _ _ ?_)
      refine wp_cond_split (t := !(nodeIn el1 (k : Int))) (ev rfl) (fun c64 => ?_) (fun c64 => ?_)
      · rw [Bool.not_eq_true'] at c64
        have c64' := c64
        (try simp only [hβ1, hβ2] at c64')
        (try simp only [icmp, Bool.and_eq_true, Bool.or_eq_true, Bool.and_eq_false_iff, Bool.or_eq_false_iff, Bool.not_eq_true', Bool.not_eq_false', decide_eq_true_eq, decide_eq_false_iff_not, beq_iff_eq, bne_iff_ne, beq_eq_false_iff_ne, bne_eq_false_iff_eq] at c64')
        refine wp_seq_k fun K65 hK65 => ?_
        refine wp_region_lit ?_
        refine q_is rfl rfl (does_assign (u := (Bo false)) (ev rfl)) (by dsimp only [List.set]; try rfl) ?_
        refine wpList_nil (hK65 _ _ ?_)
        refine wp_ret ?_
        dsimp only [Exit.then, Exit.inBlock]
        refine ret_val (v := (Bo false)) (res_T rfl (slot rfl)) X63 ?_
        try simp only [hβ1, hβ2, hel1] at c21 c47 c64
        have x66 : (isShape A_s_) = false := by first | exact isShape_len (by omega) | exact isShape_bad (by assumption) (by assumption) | exact isShape_one hb hok (by omega) hk (by omega) (by assumption) (by omega) | exact isShape_all hb hok (by omega) hk (fun i hi => hone i (by omega))
        exact (by first | with_reducible rfl | rw [x66] | rfl)
      rw [Bool.not_eq_false'] at c64
      have c64' := c64
      (try simp only [hβ1, hβ2] at c64')
      (try simp only [icmp, Bool.and_eq_true, Bool.or_eq_true, Bool.and_eq_false_iff, Bool.or_eq_false_iff, Bool.not_eq_true', Bool.not_eq_false', decide_eq_true_eq, decide_eq_false_iff_not, beq_iff_eq, bne_iff_ne, beq_eq_false_iff_ne, bne_eq_false_iff_eq] at c64')
      have hno : nodeIn el1 k = true := by assumption
      refine wp_skip (hK59 _ _ ?_)
      refine wp_seq_k fun K67 hK67 => ?_
      refine wp_seq_k fun K68 hK68 => ?_
      refine wp_region_lit ?_
      refine q_is rfl rfl (does_move (u := (Pt b50 o51)) (ev rfl)) (by dsimp only [List.set]; try rfl) ?_
      refine q_is rfl rfl (does_nilCheck (ev rfl)) (by dsimp only [List.set]; try rfl) ?_
      refine q_is rfl rfl (does_fieldAddr (ev rfl) fa102_0) (by dsimp only [List.set]; try rfl) ?_
      refine q_is rfl rfl (does_load (u := (Iv el1.kind)) (ev rfl) Try.isAgg2 (Cells.at (hc53.ext X63) 0 rfl)) (by dsimp only [List.set]; try rfl) ?_
      refine seqd rfl rfl (does_call (args := #[(Iv el1.kind)]) cal50 (evs rfl) (c_spec_l02Leaf el1.kind _)) ?_; rintro _ w70 ⟨E69, rfl⟩
      have X71 := Ext.gr X63 E69
      show wpList _ _ _ _ (fr [_, _, _, _, _, _, _, _, _, _, _, _, _, _, _, _, _, _, _, _, _, _, _, _, _, _, _, _, _, _, _, _, _, _, _, _, _, _, _, _, _, _, _, _, _, _, _, _, _, _, _, _, _, _, _, _, _, _, _, _, _, _, _, _, _, _, _, _, _, _, _, _, _, _, _, _]) _
      refine q_is rfl rfl (does_not (ev rfl)) (by dsimp only [List.set]; try rfl) ?_
      refine wpList_nil (hK68 _ _ ?_)
      refine wp_cond_split (t := !(inI el1.kind 0 4)) (ev rfl) (fun c72 => ?_) (fun c72 => ?_)
      · rw [Bool.not_eq_true'] at c72
        have c72' := c72
        (try simp only [hβ1, hβ2] at c72')
        (try simp only [icmp, Bool.and_eq_true, Bool.or_eq_true, Bool.and_eq_false_iff, Bool.or_eq_false_iff, Bool.not_eq_true', Bool.not_eq_false', decide_eq_true_eq, decide_eq_false_iff_not, beq_iff_eq, bne_iff_ne, beq_eq_false_iff_ne, bne_eq_false_iff_eq] at c72')
        have hlf : inI el1.kind 0 4 = false := by assumption
        have hna := nodeIn_a hno hlf
        refine wp_region_lit ?_
        refine q_is rfl rfl (does_move (u := (.slice (some ⟨b25, 0, none⟩) A_s_.nodes.length A_s_.nodes.length)) (ev rfl)) (by dsimp only [List.set]; try rfl) ?_
        refine q_is rfl rfl (does_move (u := (Pt b50 o51)) (ev rfl)) (by dsimp only [List.set]; try rfl) ?_
        refine q_is rfl rfl (does_nilCheck (ev rfl)) (by dsimp only [List.set]; try rfl) ?_
        refine q_is rfl rfl (does_fieldAddr (ev rfl) fa102_1) (by dsimp only [List.set]; try rfl) ?_
        refine q_is rfl rfl (does_load (u := (Iv el1.a)) (ev rfl) Try.isAgg2 (Cells.at (hc53.ext X71) 1 rfl)) (by dsimp only [List.set]; try rfl) ?_
        refine q_is rfl rfl (does_indexOwn (b := b25) (n := A_s_.nodes.length) (i := el1.a) Try.underlying100 Try.sizeOf2 (ev rfl) (ev rfl) (by omega) (by omega)) (by dsimp only [List.set]; try rfl) ?_
        obtain ⟨el2, hel2⟩ : ∃ e, (useTo A_s_.nodes k)[el1.a.toNat]? = some e := ⟨_, List.getElem?_eq_getElem (by first | assumption | omega | (simp only [useTo_len, List.length_set, List.length_replicate]; omega) | (simp only [useTo_len, List.length_set, List.length_replicate]; done))⟩
        refine q_is rfl rfl (does_loadRowI (xs := (useTo A_s_.nodes k)) (i := el1.a.toNat) (e := el2) (ev rfl) Try.isAgg2 (RowG.ext (RowG.ext hR44 RI.flat E61) RI.flat E69) rfl hel2) (by dsimp only [List.set]; try rfl) ?_
        refine q_is rfl rfl (does_iarith (p := el2) (q := 1) (r := IntKind.i64.wrap (el2 + 1)) (ev rfl) (ev rfl) (.inl ⟨rfl, rfl⟩)) (by dsimp only [List.set]; try rfl) ?_
        refine q_is rfl rfl (does_indexOwn (b := b25) (n := A_s_.nodes.length) (i := el1.a) Try.underlying100 Try.sizeOf2 (ev rfl) (ev rfl) (by omega) (by omega)) (by dsimp only [List.set]; try rfl) ?_
        refine seqn rfl rfl (does_storeRowG (R := RI) (k := 1) (xs := (useTo A_s_.nodes k)) (i := el1.a.toNat) (u := (Iv (IntKind.i64.wrap (el2 + 1)))) (e := (IntKind.i64.wrap (el2 + 1))) (ev rfl) (ev rfl) Try.sizeOf2 rfl rfl RI.flat (RowG.ext (RowG.ext hR44 RI.flat E61) RI.flat E69) rfl (by first | assumption | omega | (simp only [useTo_len, List.length_set, List.length_replicate]; omega) | (simp only [useTo_len, List.length_set, List.length_replicate]; done)) rfl) ?_; rintro _ w75 ⟨rfl, W73, hR74⟩
        have X76 := Below.wr X71 W73 g34
        refine wpList_nil (hK67 _ _ ?_)
        refine wp_seq_k fun K77 hK77 => ?_
        refine wp_region_lit ?_
        refine q_is rfl rfl (does_move (u := (Pt b50 o51)) (ev rfl)) (by dsimp only [List.set]; try rfl) ?_
        refine q_is rfl rfl (does_nilCheck (ev rfl)) (by dsimp only [List.set]; try rfl) ?_
        refine q_is rfl rfl (does_fieldAddr (ev rfl) fa102_0) (by dsimp only [List.set]; try rfl) ?_
        refine q_is rfl rfl (does_load (u := (Iv el1.kind)) (ev rfl) Try.isAgg2 (Cells.at (hc53.ext X76) 0 rfl)) (by dsimp only [List.set]; try rfl) ?_
        refine seqd rfl rfl (does_call (args := #[(Iv el1.kind)]) cal51 (evs rfl) (c_spec_l02Two el1.kind _)) ?_; rintro _ w79 ⟨E78, rfl⟩
        have X80 := Ext.gr X76 E78
        show wpList _ _ _ _ (fr [_, _, _, _, _, _, _, _, _, _, _, _, _, _, _, _, _, _, _, _, _, _, _, _, _, _, _, _, _, _, _, _, _, _, _, _, _, _, _, _, _, _, _, _, _, _, _, _, _, _, _, _, _, _, _, _, _, _, _, _, _, _, _, _, _, _, _, _, _, _, _, _, _, _, _, _]) _
        refine wpList_nil (hK77 _ _ ?_)
        refine wp_cond_split (t := inI el1.kind 5 8) (ev rfl) (fun c81 => ?_) (fun c81 => ?_)
        · have c81' := c81
          (try simp only [hβ1, hβ2] at c81')
          (try simp only [icmp, Bool.and_eq_true, Bool.or_eq_true, Bool.and_eq_false_iff, Bool.or_eq_false_iff, Bool.not_eq_true', Bool.not_eq_false', decide_eq_true_eq, decide_eq_false_iff_not, beq_iff_eq, bne_iff_ne, beq_eq_false_iff_ne, bne_eq_false_iff_eq] at c81')
          have htw : inI el1.kind 5 8 = true := by assumption
          have hnb := nodeIn_b hno htw
          refine wp_region_lit ?_
          refine q_is rfl rfl (does_move (u := (.slice (some ⟨b25, 0, none⟩) A_s_.nodes.length A_s_.nodes.length)) (ev rfl)) (by dsimp only [List.set]; try rfl) ?_
          refine q_is rfl rfl (does_move (u := (Pt b50 o51)) (ev rfl)) (by dsimp only [List.set]; try rfl) ?_
          refine q_is rfl rfl (does_nilCheck (ev rfl)) (by dsimp only [List.set]; try rfl) ?_
          refine q_is rfl rfl (does_fieldAddr (ev rfl) fa102_2) (by dsimp only [List.set]; try rfl) ?_
          refine q_is rfl rfl (does_load (u := (Iv el1.b)) (ev rfl) Try.isAgg2 (Cells.at (hc53.ext X80) 2 rfl)) (by dsimp only [List.set]; try rfl) ?_
          refine q_is rfl rfl (does_indexOwn (b := b25) (n := A_s_.nodes.length) (i := el1.b) Try.underlying100 Try.sizeOf2 (ev rfl) (ev rfl) (by omega) (by omega)) (by dsimp only [List.set]; try rfl) ?_
          obtain ⟨el3, hel3⟩ : ∃ e, ((useTo A_s_.nodes k).set el1.a.toNat (IntKind.i64.wrap (el2 + 1)))[el1.b.toNat]? = some e := ⟨_, List.getElem?_eq_getElem (by first | assumption | omega | (simp only [useTo_len, List.length_set, List.length_replicate]; omega) | (simp only [useTo_len, List.length_set, List.length_replicate]; done))⟩
          refine q_is rfl rfl (does_loadRowI (xs := ((useTo A_s_.nodes k).set el1.a.toNat (IntKind.i64.wrap (el2 + 1)))) (i := el1.b.toNat) (e := el3) (ev rfl) Try.isAgg2 (RowG.ext hR74 RI.flat E78) rfl hel3) (by dsimp only [List.set]; try rfl) ?_
          refine q_is rfl rfl (does_iarith (p := el3) (q := 1) (r := IntKind.i64.wrap (el3 + 1)) (ev rfl) (ev rfl) (.inl ⟨rfl, rfl⟩)) (by dsimp only [List.set]; try rfl) ?_
          refine q_is rfl rfl (does_indexOwn (b := b25) (n := A_s_.nodes.length) (i := el1.b) Try.underlying100 Try.sizeOf2 (ev rfl) (ev rfl) (by omega) (by omega)) (by dsimp only [List.set]; try rfl) ?_
          refine seqn rfl rfl (does_storeRowG (R := RI) (k := 1) (xs := ((useTo A_s_.nodes k).set el1.a.toNat (IntKind.i64.wrap (el2 + 1)))) (i := el1.b.toNat) (u := (Iv (IntKind.i64.wrap (el3 + 1)))) (e := (IntKind.i64.wrap (el3 + 1))) (ev rfl) (ev rfl) Try.sizeOf2 rfl rfl RI.flat (RowG.ext hR74 RI.flat E78) rfl (by first | assumption | omega | (simp only [useTo_len, List.length_set, List.length_replicate]; omega) | (simp only [useTo_len, List.length_set, List.length_replicate]; done)) rfl) ?_; rintro _ w84 ⟨rfl, W82, hR83⟩
          have X85 := Below.wr X80 W82 g34
          refine wpList_nil (hK48 _ _ ?_)
          refine wp_region_lit ?_
          refine q_is rfl rfl (does_move (u := (Iv (k : Int))) (ev rfl)) (by dsimp only [List.set]; try rfl) ?_
          refine q_is rfl rfl (does_iarith (p := (k : Int)) (q := 1) (r := (k : Int) + 1) (ev rfl) (ev rfl) (.inl ⟨rfl, (in_i64 (by omega) (by omega)).symm⟩)) (by dsimp only [List.set]; try rfl) ?_
          refine q_is rfl rfl (does_assign (u := (Iv ((k : Int) + 1))) (ev rfl)) (by dsimp only [List.set]; try rfl) ?_
          refine wpList_nil ?_
          have hR86 := RowG.cast (ys := ((fun (k : Nat) => useTo A_s_.nodes k) (k + 1))) hR83 (by (try dsimp only); simp only [useTo_succ hel1, useN, hlf, htw, if_true, if_false, Bool.false_eq_true, ↓reduceIte, incL, hel1, hel2, hel3, Option.getD_some])
          refine ⟨k + 1, ⟨fun t => (([(Pt s__b s__o), Ud, (u39 2), (Iv (A_s_.nodes.length : Int)), (.slice (some ⟨b25, 0, none⟩) A_s_.nodes.length A_s_.nodes.length), (Iv ((k : Int) + 1)), (Pt b50 o51), Ud, (Pt s__b s__o), (Pt s__b s__o), (Pt s__b s__o), (.slice p3 A_s_.nodes.length q4), (Iv (A_s_.nodes.length : Int)), v10, v11, v12, v13, v14, (Bo (β1 || β2)), (Iv (A_s_.nodes.length : Int)), (.slice (some ⟨b25, 0, none⟩) A_s_.nodes.length A_s_.nodes.length), (Iv (k : Int)), (Iv (A_s_.nodes.length : Int)), (Bo (icmp .lss (k : Int) (A_s_.nodes.length : Int))), (Iv (k : Int)), (Iv ((k : Int) + 1)), (Pt s__b s__o), (Pt s__b s__o), (Pt s__b s__o), (.slice p3 A_s_.nodes.length q4), (Iv (k : Int)), (Pt b50 o51), (Pt b50 o51), (Iv (k : Int)), (Bo (nodeIn el1 (k : Int))), (Bo (!(nodeIn el1 (k : Int)))), (Pt b50 o51), (Pt b50 o51), (Pt b50 o51), (Iv el1.kind), (Bo (inI el1.kind 0 4)), (Bo (!(inI el1.kind 0 4))), (.slice (some ⟨b25, 0, none⟩) A_s_.nodes.length A_s_.nodes.length), (Pt b50 o51), (Pt b50 o51), (Pt b50 (o51 + 1)), (Iv el1.a), (Pt b25 (el1.a.toNat * 1)), (Iv el2), (Iv (IntKind.i64.wrap (el2 + 1))), (Pt b25 (el1.a.toNat * 1)), (Pt b50 o51), (Pt b50 o51), (Pt b50 o51), (Iv el1.kind), (Bo (inI el1.kind 5 8)), (.slice (some ⟨b25, 0, none⟩) A_s_.nodes.length A_s_.nodes.length), (Pt b50 o51), (Pt b50 o51), (Pt b50 (o51 + 2)), (Iv el1.b), (Pt b25 (el1.b.toNat * 1)), (Iv el3), (Iv (IntKind.i64.wrap (el3 + 1))), (Pt b25 (el1.b.toNat * 1)), Ud, Ud, Ud, Ud, Ud, Ud, Ud, Ud, Ud, Ud, Ud] : List Value)[t]?).getD undef, ?_, (KpL.more (KpL.ext (KpL.more (KpL.ext (KpL.ext E41 E61) E69) (KpL.of_wr W73) (allS (.inl (by simp)) all0)) E78) (KpL.of_wr W82) (allS (.inl (by simp)) all0)), hR86, ?_⟩, ?_⟩
          · first | rfl | (simp only [Int.natCast_add, Int.natCast_one]; rfl)
          · exact ⟨by omega, OkTo.step hok hel1 hno⟩
          · omega
        have c81' := c81
        (try simp only [hβ1, hβ2] at c81')
        (try simp only [icmp, Bool.and_eq_true, Bool.or_eq_true, Bool.and_eq_false_iff, Bool.or_eq_false_iff, Bool.not_eq_true', Bool.not_eq_false', decide_eq_true_eq, decide_eq_false_iff_not, beq_iff_eq, bne_iff_ne, beq_eq_false_iff_ne, bne_eq_false_iff_eq] at c81')
        have htw : inI el1.kind 5 8 = false := by assumption
        refine wp_skip (hK48 _ _ ?_)
        refine wp_region_lit ?_
        refine q_is rfl rfl (does_move (u := (Iv (k : Int))) (ev rfl)) (by dsimp only [List.set]; try rfl) ?_
        refine q_is rfl rfl (does_iarith (p := (k : Int)) (q := 1) (r := (k : Int) + 1) (ev rfl) (ev rfl) (.inl ⟨rfl, (in_i64 (by omega) (by omega)).symm⟩)) (by dsimp only [List.set]; try rfl) ?_
        refine q_is rfl rfl (does_assign (u := (Iv ((k : Int) + 1))) (ev rfl)) (by dsimp only [List.set]; try rfl) ?_
        refine wpList_nil ?_
        have hR87 := RowG.cast (ys := ((fun (k : Nat) => useTo A_s_.nodes k) (k + 1))) (RowG.ext hR74 RI.flat E78) (by (try dsimp only); simp only [useTo_succ hel1, useN, hlf, htw, if_true, if_false, Bool.false_eq_true, ↓reduceIte, incL, hel1, hel2, Option.getD_some])
        refine ⟨k + 1, ⟨fun t => (([(Pt s__b s__o), Ud, (u39 2), (Iv (A_s_.nodes.length : Int)), (.slice (some ⟨b25, 0, none⟩) A_s_.nodes.length A_s_.nodes.length), (Iv ((k : Int) + 1)), (Pt b50 o51), Ud, (Pt s__b s__o), (Pt s__b s__o), (Pt s__b s__o), (.slice p3 A_s_.nodes.length q4), (Iv (A_s_.nodes.length : Int)), v10, v11, v12, v13, v14, (Bo (β1 || β2)), (Iv (A_s_.nodes.length : Int)), (.slice (some ⟨b25, 0, none⟩) A_s_.nodes.length A_s_.nodes.length), (Iv (k : Int)), (Iv (A_s_.nodes.length : Int)), (Bo (icmp .lss (k : Int) (A_s_.nodes.length : Int))), (Iv (k : Int)), (Iv ((k : Int) + 1)), (Pt s__b s__o), (Pt s__b s__o), (Pt s__b s__o), (.slice p3 A_s_.nodes.length q4), (Iv (k : Int)), (Pt b50 o51), (Pt b50 o51), (Iv (k : Int)), (Bo (nodeIn el1 (k : Int))), (Bo (!(nodeIn el1 (k : Int)))), (Pt b50 o51), (Pt b50 o51), (Pt b50 o51), (Iv el1.kind), (Bo (inI el1.kind 0 4)), (Bo (!(inI el1.kind 0 4))), (.slice (some ⟨b25, 0, none⟩) A_s_.nodes.length A_s_.nodes.length), (Pt b50 o51), (Pt b50 o51), (Pt b50 (o51 + 1)), (Iv el1.a), (Pt b25 (el1.a.toNat * 1)), (Iv el2), (Iv (IntKind.i64.wrap (el2 + 1))), (Pt b25 (el1.a.toNat * 1)), (Pt b50 o51), (Pt b50 o51), (Pt b50 o51), (Iv el1.kind), (Bo (inI el1.kind 5 8)), (u39 56), (u39 57), (u39 58), (u39 59), (u39 60), (u39 61), (u39 62), (u39 63), (u39 64), Ud, Ud, Ud, Ud, Ud, Ud, Ud, Ud, Ud, Ud, Ud] : List Value)[t]?).getD undef, ?_, (KpL.ext (KpL.more (KpL.ext (KpL.ext E41 E61) E69) (KpL.of_wr W73) (allS (.inl (by simp)) all0)) E78), hR87, ?_⟩, ?_⟩
        · first | rfl | (simp only [Int.natCast_add, Int.natCast_one]; rfl)
        · exact ⟨by omega, OkTo.step hok hel1 hno⟩
        · omega
      rw [Bool.not_eq_false'] at c72
      have c72' := c72
      (try simp only [hβ1, hβ2] at c72')
      (try simp only [icmp, Bool.and_eq_true, Bool.or_eq_true, Bool.and_eq_false_iff, Bool.or_eq_false_iff, Bool.not_eq_true', Bool.not_eq_false', decide_eq_true_eq, decide_eq_false_iff_not, beq_iff_eq, bne_iff_ne, beq_eq_false_iff_ne, bne_eq_false_iff_eq] at c72')
      have hlf : inI el1.kind 0 4 = true := by assumption
      refine wp_skip (hK67 _ _ ?_)
      refine wp_seq_k fun K88 hK88 => ?_
      refine wp_region_lit ?_
      refine q_is rfl rfl (does_move (u := (Pt b50 o51)) (ev rfl)) (by dsimp only [List.set]; try rfl) ?_
      refine q_is rfl rfl (does_nilCheck (ev rfl)) (by dsimp only [List.set]; try rfl) ?_
      refine q_is rfl rfl (does_fieldAddr (ev rfl) fa102_0) (by dsimp only [List.set]; try rfl) ?_
      refine q_is rfl rfl (does_load (u := (Iv el1.kind)) (ev rfl) Try.isAgg2 (Cells.at (hc53.ext X71) 0 rfl)) (by dsimp only [List.set]; try rfl) ?_
      refine seqd rfl rfl (does_call (args := #[(Iv el1.kind)]) cal51 (evs rfl) (c_spec_l02Two el1.kind _)) ?_; rintro _ w90 ⟨E89, rfl⟩
      have X91 := Ext.gr X71 E89
      show wpList _ _ _ _ (fr [_, _, _, _, _, _, _, _, _, _, _, _, _, _, _, _, _, _, _, _, _, _, _, _, _, _, _, _, _, _, _, _, _, _, _, _, _, _, _, _, _, _, _, _, _, _, _, _, _, _, _, _, _, _, _, _, _, _, _, _, _, _, _, _, _, _, _, _, _, _, _, _, _, _, _, _]) _
      refine wpList_nil (hK88 _ _ ?_)
      refine wp_cond_split (t := inI el1.kind 5 8) (ev rfl) (fun c92 => ?_) (fun c92 => ?_)
      · have c92' := c92
        (try simp only [hβ1, hβ2] at c92')
        (try simp only [icmp, Bool.and_eq_true, Bool.or_eq_true, Bool.and_eq_false_iff, Bool.or_eq_false_iff, Bool.not_eq_true', Bool.not_eq_false', decide_eq_true_eq, decide_eq_false_iff_not, beq_iff_eq, bne_iff_ne, beq_eq_false_iff_ne, bne_eq_false_iff_eq] at c92')
        have htw : inI el1.kind 5 8 = true := by assumption
        have hnb := nodeIn_b hno htw
        refine wp_region_lit ?_
        refine q_is rfl rfl (does_move (u := (.slice (some ⟨b25, 0, none⟩) A_s_.nodes.length A_s_.nodes.length)) (ev rfl)) (by dsimp only [List.set]; try rfl) ?_
        refine q_is rfl rfl (does_move (u := (Pt b50 o51)) (ev rfl)) (by dsimp only [List.set]; try rfl) ?_
        refine q_is rfl rfl (does_nilCheck (ev rfl)) (by dsimp only [List.set]; try rfl) ?_
        refine q_is rfl rfl (does_fieldAddr (ev rfl) fa102_2) (by dsimp only [List.set]; try rfl) ?_
        refine q_is rfl rfl (does_load (u := (Iv el1.b)) (ev rfl) Try.isAgg2 (Cells.at (hc53.ext X91) 2 rfl)) (by dsimp only [List.set]; try rfl) ?_
        refine q_is rfl rfl (does_indexOwn (b := b25) (n := A_s_.nodes.length) (i := el1.b) Try.underlying100 Try.sizeOf2 (ev rfl) (ev rfl) (by omega) (by omega)) (by dsimp only [List.set]; try rfl) ?_
        obtain ⟨el4, hel4⟩ : ∃ e, (useTo A_s_.nodes k)[el1.b.toNat]? = some e := ⟨_, List.getElem?_eq_getElem (by first | assumption | omega | (simp only [useTo_len, List.length_set, List.length_replicate]; omega) | (simp only [useTo_len, List.length_set, List.length_replicate]; done))⟩
        refine q_is rfl rfl (does_loadRowI (xs := (useTo A_s_.nodes k)) (i := el1.b.toNat) (e := el4) (ev rfl) Try.isAgg2 (RowG.ext (RowG.ext (RowG.ext hR44 RI.flat E61) RI.flat E69) RI.flat E89) rfl hel4) (by dsimp only [List.set]; try rfl) ?_
        refine q_is rfl rfl (does_iarith (p := el4) (q := 1) (r := IntKind.i64.wrap (el4 + 1)) (ev rfl) (ev rfl) (.inl ⟨rfl, rfl⟩)) (by dsimp only [List.set]; try rfl) ?_
        refine q_is rfl rfl (does_indexOwn (b := b25) (n := A_s_.nodes.length) (i := el1.b) Try.underlying100 Try.sizeOf2 (ev rfl) (ev rfl) (by omega) (by omega)) (by dsimp only [List.set]; try rfl) ?_
        refine seqn rfl rfl (does_storeRowG (R := RI) (k := 1) (xs := (useTo A_s_.nodes k)) (i := el1.b.toNat) (u := (Iv (IntKind.i64.wrap (el4 + 1)))) (e := (IntKind.i64.wrap (el4 + 1))) (ev rfl) (ev rfl) Try.sizeOf2 rfl rfl RI.flat (RowG.ext (RowG.ext (RowG.ext hR44 RI.flat E61) RI.flat E69) RI.flat E89) rfl (by first | assumption | omega | (simp only [useTo_len, List.length_set, List.length_replicate]; omega) | (simp only [useTo_len, List.length_set, List.length_replicate]; done)) rfl) ?_; rintro _ w95 ⟨rfl, W93, hR94⟩
        have X96 := Below.wr X91 W93 g34
        refine wpList_nil (hK48 _ _ ?_)
        refine wp_region_lit ?_
        refine q_is rfl rfl (does_move (u := (Iv (k : Int))) (ev rfl)) (by dsimp only [List.set]; try rfl) ?_
        refine q_is rfl rfl (does_iarith (p := (k : Int)) (q := 1) (r := (k : Int) + 1) (ev rfl) (ev rfl) (.inl ⟨rfl, (in_i64 (by omega) (by omega)).symm⟩)) (by dsimp only [List.set]; try rfl) ?_
        refine q_is rfl rfl (does_assign (u := (Iv ((k : Int) + 1))) (ev rfl)) (by dsimp only [List.set]; try rfl) ?_
        refine wpList_nil ?_
        have hR97 := RowG.cast (ys := ((fun (k : Nat) => useTo A_s_.nodes k) (k + 1))) hR94 (by (try dsimp only); simp only [useTo_succ hel1, useN, hlf, htw, if_true, if_false, Bool.false_eq_true, ↓reduceIte, incL, hel1, hel4, Option.getD_some])
        refine ⟨k + 1, ⟨fun t => (([(Pt s__b s__o), Ud, (u39 2), (Iv (A_s_.nodes.length : Int)), (.slice (some ⟨b25, 0, none⟩) A_s_.nodes.length A_s_.nodes.length), (Iv ((k : Int) + 1)), (Pt b50 o51), Ud, (Pt s__b s__o), (Pt s__b s__o), (Pt s__b s__o), (.slice p3 A_s_.nodes.length q4), (Iv (A_s_.nodes.length : Int)), v10, v11, v12, v13, v14, (Bo (β1 || β2)), (Iv (A_s_.nodes.length : Int)), (.slice (some ⟨b25, 0, none⟩) A_s_.nodes.length A_s_.nodes.length), (Iv (k : Int)), (Iv (A_s_.nodes.length : Int)), (Bo (icmp .lss (k : Int) (A_s_.nodes.length : Int))), (Iv (k : Int)), (Iv ((k : Int) + 1)), (Pt s__b s__o), (Pt s__b s__o), (Pt s__b s__o), (.slice p3 A_s_.nodes.length q4), (Iv (k : Int)), (Pt b50 o51), (Pt b50 o51), (Iv (k : Int)), (Bo (nodeIn el1 (k : Int))), (Bo (!(nodeIn el1 (k : Int)))), (Pt b50 o51), (Pt b50 o51), (Pt b50 o51), (Iv el1.kind), (Bo (inI el1.kind 0 4)), (Bo (!(inI el1.kind 0 4))), (u39 42), (u39 43), (u39 44), (u39 45), (u39 46), (u39 47), (u39 48), (u39 49), (u39 50), (Pt b50 o51), (Pt b50 o51), (Pt b50 o51), (Iv el1.kind), (Bo (inI el1.kind 5 8)), (.slice (some ⟨b25, 0, none⟩) A_s_.nodes.length A_s_.nodes.length), (Pt b50 o51), (Pt b50 o51), (Pt b50 (o51 + 2)), (Iv el1.b), (Pt b25 (el1.b.toNat * 1)), (Iv el4), (Iv (IntKind.i64.wrap (el4 + 1))), (Pt b25 (el1.b.toNat * 1)), Ud, Ud, Ud, Ud, Ud, Ud, Ud, Ud, Ud, Ud, Ud] : List Value)[t]?).getD undef, ?_, (KpL.more (KpL.ext (KpL.ext (KpL.ext E41 E61) E69) E89) (KpL.of_wr W93) (allS (.inl (by simp)) all0)), hR97, ?_⟩, ?_⟩
        · first | rfl | (simp only [Int.natCast_add, Int.natCast_one]; rfl)
        · exact ⟨by omega, OkTo.step hok hel1 hno⟩
        · omega
      have c92' := c92
      (try simp only [hβ1, hβ2] at c92')
      (try simp only [icmp, Bool.and_eq_true, Bool.or_eq_true, Bool.and_eq_false_iff, Bool.or_eq_false_iff, Bool.not_eq_true', Bool.not_eq_false', decide_eq_true_eq, decide_eq_false_iff_not, beq_iff_eq, bne_iff_ne, beq_eq_false_iff_ne, bne_eq_false_iff_eq] at c92')
      have htw : inI el1.kind 5 8 = false := by assumption
      refine wp_skip (hK48 _ _ ?_)
      refine wp_region_lit ?_
      refine q_is rfl rfl (does_move (u := (Iv (k : Int))) (ev rfl)) (by dsimp only [List.set]; try rfl) ?_
      refine q_is rfl rfl (does_iarith (p := (k : Int)) (q := 1) (r := (k : Int) + 1) (ev rfl) (ev rfl) (.inl ⟨rfl, (in_i64 (by omega) (by omega)).symm⟩)) (by dsimp only [List.set]; try rfl) ?_
      refine q_is rfl rfl (does_assign (u := (Iv ((k : Int) + 1))) (ev rfl)) (by dsimp only [List.set]; try rfl) ?_
      refine wpList_nil ?_
      have hR98 := RowG.cast (ys := ((fun (k : Nat) => useTo A_s_.nodes k) (k + 1))) (RowG.ext (RowG.ext (RowG.ext hR44 RI.flat E61) RI.flat E69) RI.flat E89) (by (try dsimp only); simp only [useTo_succ hel1, useN, hlf, htw, if_true, if_false, Bool.false_eq_true, ↓reduceIte, incL, hel1, Option.getD_some])
      refine ⟨k + 1, ⟨fun t => (([(Pt s__b s__o), Ud, (u39 2), (Iv (A_s_.nodes.length : Int)), (.slice (some ⟨b25, 0, none⟩) A_s_.nodes.length A_s_.nodes.length), (Iv ((k : Int) + 1)), (Pt b50 o51), Ud, (Pt s__b s__o), (Pt s__b s__o), (Pt s__b s__o), (.slice p3 A_s_.nodes.length q4), (Iv (A_s_.nodes.length : Int)), v10, v11, v12, v13, v14, (Bo (β1 || β2)), (Iv (A_s_.nodes.length : Int)), (.slice (some ⟨b25, 0, none⟩) A_s_.nodes.length A_s_.nodes.length), (Iv (k : Int)), (Iv (A_s_.nodes.length : Int)), (Bo (icmp .lss (k : Int) (A_s_.nodes.length : Int))), (Iv (k : Int)), (Iv ((k : Int) + 1)), (Pt s__b s__o), (Pt s__b s__o), (Pt s__b s__o), (.slice p3 A_s_.nodes.length q4), (Iv (k : Int)), (Pt b50 o51), (Pt b50 o51), (Iv (k : Int)), (Bo (nodeIn el1 (k : Int))), (Bo (!(nodeIn el1 (k : Int)))), (Pt b50 o51), (Pt b50 o51), (Pt b50 o51), (Iv el1.kind), (Bo (inI el1.kind 0 4)), (Bo (!(inI el1.kind 0 4))), (u39 42), (u39 43), (u39 44), (u39 45), (u39 46), (u39 47), (u39 48), (u39 49), (u39 50), (Pt b50 o51), (Pt b50 o51), (Pt b50 o51), (Iv el1.kind), (Bo (inI el1.kind 5 8)), (u39 56), (u39 57), (u39 58), (u39 59), (u39 60), (u39 61), (u39 62), (u39 63), (u39 64), Ud, Ud, Ud, Ud, Ud, Ud, Ud, Ud, Ud, Ud, Ud] : List Value)[t]?).getD undef, ?_, (KpL.ext (KpL.ext (KpL.ext E41 E61) E69) E89), hR98, ?_⟩, ?_⟩
      · first | rfl | (simp only [Int.natCast_add, Int.natCast_one]; rfl)
      · exact ⟨by omega, OkTo.step hok hel1 hno⟩
      · omega
    have c47' := c47
    (try simp only [hβ1, hβ2] at c47')
    (try simp only [icmp, Bool.and_eq_true, Bool.or_eq_true, Bool.and_eq_false_iff, Bool.or_eq_false_iff, Bool.not_eq_true', Bool.not_eq_false', decide_eq_true_eq, decide_eq_false_iff_not, beq_iff_eq, bne_iff_ne, beq_eq_false_iff_ne, bne_eq_false_iff_eq] at c47')
    refine wp_exit ?_
    refine hK37 _ _ ?_
    refine wp_seq_k fun K99 hK99 => ?_
    refine wp_seq_k fun K100 hK100 => ?_
    refine wp_region_lit ?_
    refine q_is rfl rfl (does_assign (u := (Iv 0)) (ev rfl)) (by dsimp only [List.set]; try rfl) ?_
    refine wpList_nil (hK100 _ _ ?_)
    refine wp_block ?_
    refine loop_ghost (σ := Nat) (fun m a w' => ∃ u101 : Nat → Value, a = fr [(Pt s__b s__o), Ud, (u101 2), (Iv (A_s_.nodes.length : Int)), (.slice (some ⟨b25, 0, none⟩) A_s_.nodes.length A_s_.nodes.length), (Iv (k : Int)), (u39 6), (Iv (m : Int)), (Pt s__b s__o), (Pt s__b s__o), (Pt s__b s__o), (.slice p3 A_s_.nodes.length q4), (Iv (A_s_.nodes.length : Int)), v10, v11, v12, v13, v14, (Bo (β1 || β2)), (Iv (A_s_.nodes.length : Int)), (.slice (some ⟨b25, 0, none⟩) A_s_.nodes.length A_s_.nodes.length), (Iv (k : Int)), (Iv (A_s_.nodes.length : Int)), (Bo (icmp .lss (k : Int) (A_s_.nodes.length : Int))), (u39 24), (u39 25), (u39 26), (u39 27), (u39 28), (u39 29), (u39 30), (u39 31), (u39 32), (u39 33), (u39 34), (u39 35), (u39 36), (u39 37), (u39 38), (u39 39), (u39 40), (u39 41), (u39 42), (u39 43), (u39 44), (u39 45), (u39 46), (u39 47), (u39 48), (u39 49), (u39 50), (u39 51), (u39 52), (u39 53), (u39 54), (u39 55), (u39 56), (u39 57), (u39 58), (u39 59), (u39 60), (u39 61), (u39 62), (u39 63), (u39 64), (u101 65), (u101 66), (u101 67), (u101 68), (u101 69), (u101 70), (u101 71), (u101 72), (u101 73), (u101 74), (u101 75)] ∧ Ext w40 w' ∧ (m ≤ A_s_.nodes.length ∧ ∀ j : Nat, j < m → oneAt (useTo A_s_.nodes k) j = true)) (fun m => A_s_.nodes.length - m) 0 ?_ ?_
    · refine ⟨fun t => (([(Pt s__b s__o), Ud, (u39 2), (Iv (A_s_.nodes.length : Int)), (.slice (some ⟨b25, 0, none⟩) A_s_.nodes.length A_s_.nodes.length), (Iv (k : Int)), (u39 6), (Iv 0), (Pt s__b s__o), (Pt s__b s__o), (Pt s__b s__o), (.slice p3 A_s_.nodes.length q4), (Iv (A_s_.nodes.length : Int)), v10, v11, v12, v13, v14, (Bo (β1 || β2)), (Iv (A_s_.nodes.length : Int)), (.slice (some ⟨b25, 0, none⟩) A_s_.nodes.length A_s_.nodes.length), (Iv (k : Int)), (Iv (A_s_.nodes.length : Int)), (Bo (icmp .lss (k : Int) (A_s_.nodes.length : Int))), (u39 24), (u39 25), (u39 26), (u39 27), (u39 28), (u39 29), (u39 30), (u39 31), (u39 32), (u39 33), (u39 34), (u39 35), (u39 36), (u39 37), (u39 38), (u39 39), (u39 40), (u39 41), (u39 42), (u39 43), (u39 44), (u39 45), (u39 46), (u39 47), (u39 48), (u39 49), (u39 50), (u39 51), (u39 52), (u39 53), (u39 54), (u39 55), (u39 56), (u39 57), (u39 58), (u39 59), (u39 60), (u39 61), (u39 62), (u39 63), (u39 64), Ud, Ud, Ud, Ud, Ud, Ud, Ud, Ud, Ud, Ud, Ud] : List Value)[t]?).getD undef, rfl, Ext.refl _, ?_⟩
      exact ⟨Nat.zero_le _, fun j hj => by omega⟩
    · rintro m a w102 ⟨u101, rfl, E103, ⟨hm, hone⟩⟩
      have X105 := Ext.gr X43 E103
      refine wp_seq_k fun K106 hK106 => ?_
      refine wp_seq_k fun K107 hK107 => ?_
      refine wp_region_lit ?_
      refine q_is rfl rfl (does_move (u := (Iv (m : Int))) (ev rfl)) (by dsimp only [List.set]; try rfl) ?_
      refine q_is rfl rfl (does_move (u := (Iv (A_s_.nodes.length : Int))) (ev rfl)) (by dsimp only [List.set]; try rfl) ?_
      refine q_is rfl rfl (does_iarith (p := (A_s_.nodes.length : Int)) (q := 1) (r := (A_s_.nodes.length : Int) - 1) (ev rfl) (ev rfl) (.inr (.inl ⟨rfl, (in_i64 (by omega) (by omega)).symm⟩))) (by dsimp only [List.set]; try rfl) ?_
      refine q_is rfl rfl (does_icmp (p := (m : Int)) (q := (A_s_.nodes.length : Int) - 1) (.inr (.inr (.inl rfl))) (ev rfl) (ev rfl)) (by dsimp only [List.set]; try rfl) ?_
      refine wpList_nil (hK107 _ _ ?_)
      refine wp_cond_split (t := icmp .lss (m : Int) ((A_s_.nodes.length : Int) - 1)) (ev rfl) (fun c108 => ?_) (fun c108 => ?_)
      · have c108' := c108
        (try simp only [hβ1, hβ2] at c108')
        (try simp only [icmp, Bool.and_eq_true, Bool.or_eq_true, Bool.and_eq_false_iff, Bool.or_eq_false_iff, Bool.not_eq_true', Bool.not_eq_false', decide_eq_true_eq, decide_eq_false_iff_not, beq_iff_eq, bne_iff_ne, beq_eq_false_iff_ne, bne_eq_false_iff_eq] at c108')
        refine wp_skip (hK106 _ _ ?_)
        refine wp_seq_k fun K109 hK109 => ?_
        refine wp_block ?_
        refine wp_seq_k fun K110 hK110 => ?_
        refine wp_region_lit ?_
        refine q_is rfl rfl (does_move (u := (.slice (some ⟨b25, 0, none⟩) A_s_.nodes.length A_s_.nodes.length)) (ev rfl)) (by dsimp only [List.set]; try rfl) ?_
        refine q_is rfl rfl (does_move (u := (Iv (m : Int))) (ev rfl)) (by dsimp only [List.set]; try rfl) ?_
        refine q_is rfl rfl (does_indexOwn (b := b25) (n := A_s_.nodes.length) (i := (m : Int)) Try.underlying100 Try.sizeOf2 (ev rfl) (ev rfl) (by omega) (by omega)) (by dsimp only [List.set]; try rfl) ?_
        obtain ⟨el5, hel5⟩ : ∃ e, (useTo A_s_.nodes k)[m]? = some e := ⟨_, List.getElem?_eq_getElem (by first | assumption | omega | (simp only [useTo_len, List.length_set, List.length_replicate]; omega) | (simp only [useTo_len, List.length_set, List.length_replicate]; done))⟩
        refine q_is rfl rfl (does_loadRowI (xs := (useTo A_s_.nodes k)) (i := m) (e := el5) (ev rfl) Try.isAgg2 (RowG.ext hR44 RI.flat E103) rfl hel5) (by dsimp only [List.set]; try rfl) ?_
        refine q_is rfl rfl (does_icmp (p := el5) (q := 1) (.inr (.inl rfl)) (ev rfl) (ev rfl)) (by dsimp only [List.set]; try rfl) ?_
        refine wpList_nil (hK110 _ _ ?_)
        refine wp_cond_split (t := icmp .neq el5 1) (ev rfl) (fun c111 => ?_) (fun c111 => ?_)
        · have c111' := c111
          (try simp only [hβ1, hβ2] at c111')
          (try simp only [icmp, Bool.and_eq_true, Bool.or_eq_true, Bool.and_eq_false_iff, Bool.or_eq_false_iff, Bool.not_eq_true', Bool.not_eq_false', decide_eq_true_eq, decide_eq_false_iff_not, beq_iff_eq, bne_iff_ne, beq_eq_false_iff_ne, bne_eq_false_iff_eq] at c111')
          refine wp_seq_k fun K112 hK112 => ?_
          refine wp_region_lit ?_
          refine q_is rfl rfl (does_assign (u := (Bo false)) (ev rfl)) (by dsimp only [List.set]; try rfl) ?_
          refine wpList_nil (hK112 _ _ ?_)
          refine wp_ret ?_
          dsimp only [Exit.then, Exit.inBlock]
          refine ret_val (v := (Bo false)) (res_T rfl (slot rfl)) X105 ?_
          try simp only [hβ1, hβ2] at c21 c47 c108 c111
          have x113 : (isShape A_s_) = false := by first | exact isShape_len (by omega) | exact isShape_bad (by assumption) (by assumption) | exact isShape_one hb hok (by omega) hk (by omega) (by assumption) (by omega) | exact isShape_all hb hok (by omega) hk (fun i hi => hone i (by omega))
          exact (by first | with_reducible rfl | rw [x113] | rfl)
        have c111' := c111
        (try simp only [hβ1, hβ2] at c111')
        (try simp only [icmp, Bool.and_eq_true, Bool.or_eq_true, Bool.and_eq_false_iff, Bool.or_eq_false_iff, Bool.not_eq_true', Bool.not_eq_false', decide_eq_true_eq, decide_eq_false_iff_not, beq_iff_eq, bne_iff_ne, beq_eq_false_iff_ne, bne_eq_false_iff_eq] at c111')
        refine wp_skip (hK109 _ _ ?_)
        refine wp_region_lit ?_
        refine q_is rfl rfl (does_move (u := (Iv (m : Int))) (ev rfl)) (by dsimp only [List.set]; try rfl) ?_
        refine q_is rfl rfl (does_iarith (p := (m : Int)) (q := 1) (r := (m : Int) + 1) (ev rfl) (ev rfl) (.inl ⟨rfl, (in_i64 (by omega) (by omega)).symm⟩)) (by dsimp only [List.set]; try rfl) ?_
        refine q_is rfl rfl (does_assign (u := (Iv ((m : Int) + 1))) (ev rfl)) (by dsimp only [List.set]; try rfl) ?_
        refine wpList_nil ?_
        refine ⟨m + 1, ⟨fun t => (([(Pt s__b s__o), Ud, (u101 2), (Iv (A_s_.nodes.length : Int)), (.slice (some ⟨b25, 0, none⟩) A_s_.nodes.length A_s_.nodes.length), (Iv (k : Int)), (u39 6), (Iv ((m : Int) + 1)), (Pt s__b s__o), (Pt s__b s__o), (Pt s__b s__o), (.slice p3 A_s_.nodes.length q4), (Iv (A_s_.nodes.length : Int)), v10, v11, v12, v13, v14, (Bo (β1 || β2)), (Iv (A_s_.nodes.length : Int)), (.slice (some ⟨b25, 0, none⟩) A_s_.nodes.length A_s_.nodes.length), (Iv (k : Int)), (Iv (A_s_.nodes.length : Int)), (Bo (icmp .lss (k : Int) (A_s_.nodes.length : Int))), (u39 24), (u39 25), (u39 26), (u39 27), (u39 28), (u39 29), (u39 30), (u39 31), (u39 32), (u39 33), (u39 34), (u39 35), (u39 36), (u39 37), (u39 38), (u39 39), (u39 40), (u39 41), (u39 42), (u39 43), (u39 44), (u39 45), (u39 46), (u39 47), (u39 48), (u39 49), (u39 50), (u39 51), (u39 52), (u39 53), (u39 54), (u39 55), (u39 56), (u39 57), (u39 58), (u39 59), (u39 60), (u39 61), (u39 62), (u39 63), (u39 64), (Iv (m : Int)), (Iv (A_s_.nodes.length : Int)), (Iv ((A_s_.nodes.length : Int) - 1)), (Bo (icmp .lss (m : Int) ((A_s_.nodes.length : Int) - 1))), (Iv (m : Int)), (Iv ((m : Int) + 1)), (.slice (some ⟨b25, 0, none⟩) A_s_.nodes.length A_s_.nodes.length), (Iv (m : Int)), (Pt b25 (m * 1)), (Iv el5), (Bo (icmp .neq el5 1))] : List Value)[t]?).getD undef, ?_, E103, ?_⟩, ?_⟩
        · first | rfl | (simp only [Int.natCast_add, Int.natCast_one]; rfl)
        · (try dsimp only); exact ⟨by omega, one_step hone (by assumption) (by omega)⟩
        · (try dsimp only); omega
      have c108' := c108
      (try simp only [hβ1, hβ2] at c108')
      (try simp only [icmp, Bool.and_eq_true, Bool.or_eq_true, Bool.and_eq_false_iff, Bool.or_eq_false_iff, Bool.not_eq_true', Bool.not_eq_false', decide_eq_true_eq, decide_eq_false_iff_not, beq_iff_eq, bne_iff_ne, beq_eq_false_iff_ne, bne_eq_false_iff_eq] at c108')
      refine wp_exit ?_
      refine hK99 _ _ ?_
      refine wp_seq_k fun K114 hK114 => ?_
      refine wp_region_lit ?_
      refine q_is rfl rfl (does_assign (u := (Bo true)) (ev rfl)) (by dsimp only [List.set]; try rfl) ?_
      refine wpList_nil (hK114 _ _ ?_)
      refine wp_ret ?_
      refine ret_val (v := (Bo true)) (res_T rfl (slot rfl)) X105 ?_
      try simp only [hβ1, hβ2] at c21 c47 c108
      have x115 : (isShape A_s_) = true := by first | exact isShape_len (by omega) | exact isShape_bad (by assumption) (by assumption) | exact isShape_one hb hok (by omega) hk (by omega) (by assumption) (by omega) | exact isShape_all hb hok (by omega) hk (fun i hi => hone i (by omega))
      exact (by first | with_reducible rfl | rw [x115] | rfl)

/- spec.l10Word -/
theorem c_spec_l10Word (n_ : Int) (many : Int) (w : World) (hm0 : 0 ≤ many ∧ many ≤ 8) : Gives Try.prog 52 #[(Iv n_), (Iv many)] w (fun v w' => v = (.string (wordS n_ many.toNat))) := by
  refine enter [(Iv n_), (Iv many), Ud, Ud, Ud, Ud, Ud, Ud, Ud, Ud, Ud, Ud, Ud, Ud, Ud, Ud, Ud, Ud, Ud, Ud, Ud, Ud, Ud, Ud, Ud] Try.func52 rfl Try.ntmps52 rfl ?_
  refine wp_seq_k fun K1 hK1 => ?_
  refine wp_region_lit ?_
  refine q_is rfl rfl (does_assign (u := (.string (⟨#[]⟩))) (ev rfl)) (by dsimp only [List.set]; try rfl) ?_
  refine wpList_nil (hK1 _ _ ?_)
  refine wp_seq_k fun K2 hK2 => ?_
  refine wp_region_lit ?_
  refine seqd rfl rfl (does_slice0 (e := 5) (fun _ => by kernel_rfl)) ?_; rintro _ w8 ⟨b3, rfl, hb4, hl5, hO6, E7⟩
  have X9 := Ext.gr (Ext.refl w) E7
  have hO10 := hO6 _ RU 1
  have hH11 : Hang w.heap.size w8 (fun u => Sl RU 1 u (.slice (some ⟨b3, 0, none⟩) 0 0) ([])) := Own.hang hO10 RU.flat (by decide) hb4 (Below.size E7)
  show wpList _ _ _ _ (fr [_, _, _, _, _, _, _, _, _, _, _, _, _, _, _, _, _, _, _, _, _, _, _, _, _]) _
  refine q_is rfl rfl (does_assign (u := (.slice (some ⟨b3, 0, none⟩) 0 0)) (ev rfl)) (by dsimp only [List.set]; try rfl) ?_
  refine wpList_nil (hK2 _ _ ?_)
  refine wp_seq_k fun K12 hK12 => ?_
  refine wp_seq_k fun K13 hK13 => ?_
  refine wp_region_lit ?_
  refine q_is rfl rfl (does_assign (u := (Iv 0)) (ev rfl)) (by dsimp only [List.set]; try rfl) ?_
  refine wpList_nil (hK13 _ _ ?_)
  refine wp_block ?_
  obtain ⟨gg15, hg16, hg17, hO18⟩ := Own.start' hO10 hO10
  have hN19 : w.heap.size ≤ gg15 := by rcases hg16 with h | h; exact h ▸ hb4; exact Nat.le_trans (Below.size E7) h
  have g20 : w.heap.size ≤ gg15 := Nat.le_trans (Nat.le_refl _) hN19
  have hg21 : gg15 < w8.heap.size := by rcases hg17 with h | h; exact h ▸ Nat.lt_of_lt_of_le hl5 (Nat.le_refl _); exact h
  refine loop_ghost (σ := Nat) (fun k a w' => ∃ u14 : Nat → Value, ∃ y5 : Value, a = fr [(Iv n_), (Iv many), Ud, Ud, (.string (⟨#[]⟩)), y5, (Iv (k : Int)), (.slice (some ⟨b3, 0, none⟩) 0 0), (u14 8), (u14 9), (u14 10), (u14 11), (u14 12), (u14 13), (u14 14), (u14 15), (u14 16), (u14 17), (u14 18), (u14 19), (u14 20), (u14 21), (u14 22), Ud, Ud] ∧ KpL [gg15] w8 w' ∧ Own RU 1 5 gg15 w8.heap.size w' y5 (wordL n_ k) ∧ ((k : Int) ≤ many)) (fun k => many.toNat - k) 0 ?_ ?_
  · refine ⟨fun t => (([(Iv n_), (Iv many), Ud, Ud, (.string (⟨#[]⟩)), (.slice (some ⟨b3, 0, none⟩) 0 0), (Iv 0), (.slice (some ⟨b3, 0, none⟩) 0 0), Ud, Ud, Ud, Ud, Ud, Ud, Ud, Ud, Ud, Ud, Ud, Ud, Ud, Ud, Ud, Ud, Ud] : List Value)[t]?).getD undef, (.slice (some ⟨b3, 0, none⟩) 0 0), rfl, KpL.refl _ _, (Own.cast hO18 (by rfl)), ?_⟩
    exact hm0.1
  · rintro k a w22 ⟨u14, y5, rfl, E23, hO25, hk⟩
    have X26 := Below.kl X9 E23 (allS g20 all0) (Nat.le_refl _)
    obtain ⟨p27, q28, rfl⟩ := Own.shape hO25
    have hH29 : Hang w.heap.size w22 (fun u => Sl RU 1 u (.slice p27 ((wordL n_ k).length) q28) (wordL n_ k)) := Own.hang hO25 RU.flat (by decide) hN19 (Below.size E7)
    have hwl := wordL_len n_ k
    refine wp_seq_k fun K30 hK30 => ?_
    refine wp_seq_k fun K31 hK31 => ?_
    refine wp_region_lit ?_
    refine q_is rfl rfl (does_move (u := (Iv (k : Int))) (ev rfl)) (by dsimp only [List.set]; try rfl) ?_
    refine q_is rfl rfl (does_move (u := (Iv many)) (ev rfl)) (by dsimp only [List.set]; try rfl) ?_
    refine q_is rfl rfl (does_icmp (p := (k : Int)) (q := many) (.inr (.inr (.inl rfl))) (ev rfl) (ev rfl)) (by dsimp only [List.set]; try rfl) ?_
    refine wpList_nil (hK31 _ _ ?_)
    refine wp_cond_split (t := icmp .lss (k : Int) many) (ev rfl) (fun c32 => ?_) (fun c32 => ?_)
    · have c32' := c32
      (try simp only [icmp, Bool.and_eq_true, Bool.or_eq_true, Bool.and_eq_false_iff, Bool.or_eq_false_iff, Bool.not_eq_true', Bool.not_eq_false', decide_eq_true_eq, decide_eq_false_iff_not, beq_iff_eq, bne_iff_ne, beq_eq_false_iff_ne, bne_eq_false_iff_eq] at c32')
      refine wp_skip (hK30 _ _ ?_)
      refine wp_seq_k fun K33 hK33 => ?_
      refine wp_block ?_
      refine wp_region_lit ?_
      refine q_is rfl rfl (does_move (u := (.slice p27 ((wordL n_ k).length) q28)) (ev rfl)) (by dsimp only [List.set]; try rfl) ?_
      refine q_is rfl rfl (does_move (u := (Iv n_)) (ev rfl)) (by dsimp only [List.set]; try rfl) ?_
      refine q_is rfl rfl (does_move (u := (Iv (k : Int))) (ev rfl)) (by dsimp only [List.set]; try rfl) ?_
      refine q_is rfl rfl (does_iarith (p := 8) (q := (k : Int)) (r := 8 * (k : Int)) (ev rfl) (ev rfl) (.inr (.inr ⟨rfl, (in_i64 (by omega) (by omega)).symm⟩))) (by dsimp only [List.set]; try rfl) ?_
      refine q_is rfl rfl (does_conv_ii (r := 8 * (k : Int)) (k := .i64) (k' := .u64) (n := 8 * (k : Int)) Try.underlying3 Try.underlying137 (ev rfl) (in_u64 (by omega) (by omega)).symm) (by dsimp only [List.set]; try rfl) ?_
      refine q_is rfl rfl (does_shr (p := n_) (c := 8 * (k : Int)) (ev rfl) (ev rfl) (by omega) (by omega)) (by dsimp only [List.set]; try rfl) ?_
      refine q_is rfl rfl (does_and255 (p := n_ / 2 ^ (8 * (k : Int)).toNat) (ev rfl) (ev rfl)) (by dsimp only [List.set]; try rfl) ?_
      refine q_is rfl rfl (does_conv_ii (r := IntKind.u8.wrap ((n_ / 2 ^ (8 * (k : Int)).toNat) % 256)) (k := .i64) (k' := .u8) (n := (n_ / 2 ^ (8 * (k : Int)).toNat) % 256) Try.underlying2 Try.underlying5 (ev rfl) rfl) (by dsimp only [List.set]; try rfl) ?_
      refine seqd rfl rfl (does_buildSlice (e := 5) (parts' := [(0, (Uv (IntKind.u8.wrap ((n_ / 2 ^ (8 * (k : Int)).toNat) % 256))))]) (cells := [(Uv (IntKind.u8.wrap ((n_ / 2 ^ (8 * (k : Int)).toNat) % 256)))]) (evp rfl) (fun _ => by kernel_rfl)) ?_; rintro _ w38 ⟨b34, rfl, hb35, hB36, E37⟩
      have g39 : w.heap.size ≤ b34 := Nat.le_trans (Below.size X26) hb35
      have X40 := Ext.gr X26 E37
      show wpList _ _ _ _ (fr [_, _, _, _, _, _, _, _, _, _, _, _, _, _, _, _, _, _, _, _, _, _, _, _, _]) _
      refine seqd rfl rfl (does_append (R := RU) (k := 1) (g0 := gg15) (B := w8.heap.size) (xs := (wordL n_ k)) (ys := [IntKind.u8.wrap ((n_ / 2 ^ (8 * (k : Int)).toNat) % 256)]) Try.underlying136 inf5 rfl (by decide) (ev rfl) (ev rfl) (Own.same hO25 RU.flat ((Same.refl _ _).ext E37) hN19 (Below.size E7)) RU.flat hB36 rfl rfl rfl (fun i x hi => lit1 (R := RU) (cs := [(Uv (IntKind.u8.wrap ((n_ / 2 ^ (8 * (k : Int)).toNat) % 256)))]) (y := IntKind.u8.wrap ((n_ / 2 ^ (8 * (k : Int)).toNat) % 256))  rfl i x hi) (by first | (simp only [List.length_append, List.length_cons, List.length_nil]; omega) | omega) (Nat.le_trans (KpL.size E23) (Below.size E37))) ?_; rintro y' w41 ⟨gg42, hg43, K44, hO45⟩
      have hN46 : w.heap.size ≤ gg42 := by rcases hg43 with h | h; exact h ▸ hN19; exact Nat.le_trans (Below.size E7) h
      have g47 : w.heap.size ≤ gg42 := Nat.le_trans (Nat.le_refl _) hN46
      have X48 := Below.kl X40 K44 (allS g47 all0) (Nat.le_refl _)
      obtain ⟨p49, q50, rfl⟩ := Own.shape hO45
      have hH51 : Hang w.heap.size w41 (fun u => Sl RU 1 u (.slice p49 (((wordL n_ k) ++ [IntKind.u8.wrap ((n_ / 2 ^ (8 * (k : Int)).toNat) % 256)]).length) q50) ((wordL n_ k) ++ [IntKind.u8.wrap ((n_ / 2 ^ (8 * (k : Int)).toNat) % 256)])) := Own.hang hO45 RU.flat (by decide) hN19 (Below.size E7)
      show wpList _ _ _ _ (fr [_, _, _, _, _, _, _, _, _, _, _, _, _, _, _, _, _, _, _, _, _, _, _, _, _]) _
      refine q_is rfl rfl (does_assign (u := (.slice p49 (((wordL n_ k) ++ [IntKind.u8.wrap ((n_ / 2 ^ (8 * (k : Int)).toNat) % 256)]).length) q50)) (ev rfl)) (by dsimp only [List.set]; try rfl) ?_
      refine wpList_nil (hK33 _ _ ?_)
      refine wp_region_lit ?_
      refine q_is rfl rfl (does_move (u := (Iv (k : Int))) (ev rfl)) (by dsimp only [List.set]; try rfl) ?_
      refine q_is rfl rfl (does_iarith (p := (k : Int)) (q := 1) (r := (k : Int) + 1) (ev rfl) (ev rfl) (.inl ⟨rfl, (in_i64 (by omega) (by omega)).symm⟩)) (by dsimp only [List.set]; try rfl) ?_
      refine q_is rfl rfl (does_assign (u := (Iv ((k : Int) + 1))) (ev rfl)) (by dsimp only [List.set]; try rfl) ?_
      refine wpList_nil ?_
      have hO52 := Own.cast (ys := ((fun (k : Nat) => wordL n_ k) (k + 1))) hO45 (by (try dsimp only); exact wordS' (by omega))
      refine ⟨k + 1, ⟨fun t => (([(Iv n_), (Iv many), Ud, Ud, (.string (⟨#[]⟩)), (.slice p49 (((wordL n_ k) ++ [IntKind.u8.wrap ((n_ / 2 ^ (8 * (k : Int)).toNat) % 256)]).length) q50), (Iv ((k : Int) + 1)), (.slice (some ⟨b3, 0, none⟩) 0 0), (Iv (k : Int)), (Iv many), (Bo (icmp .lss (k : Int) many)), (Iv (k : Int)), (Iv ((k : Int) + 1)), (.slice p27 ((wordL n_ k).length) q28), (Iv n_), (Iv (k : Int)), (Iv (8 * (k : Int))), (.int .u64 (8 * (k : Int))), (Iv (n_ / 2 ^ (8 * (k : Int)).toNat)), (Iv ((n_ / 2 ^ (8 * (k : Int)).toNat) % 256)), (Uv (IntKind.u8.wrap ((n_ / 2 ^ (8 * (k : Int)).toNat) % 256))), (.slice (some ⟨b34, 0, none⟩) 1 1), (.slice p49 (((wordL n_ k) ++ [IntKind.u8.wrap ((n_ / 2 ^ (8 * (k : Int)).toNat) % 256)]).length) q50), Ud, Ud] : List Value)[t]?).getD undef, (.slice p49 (((wordL n_ k) ++ [IntKind.u8.wrap ((n_ / 2 ^ (8 * (k : Int)).toNat) % 256)]).length) q50), ?_, (KpL.more (KpL.ext E23 E37) K44 (allS (hg43.imp (fun h => by simp [h]) id) all0)), hO52, ?_⟩, ?_⟩
      · first | rfl | (simp only [Int.natCast_add, Int.natCast_one]; rfl)
      · omega
      · omega
    have c32' := c32
    (try simp only [icmp, Bool.and_eq_true, Bool.or_eq_true, Bool.and_eq_false_iff, Bool.or_eq_false_iff, Bool.not_eq_true', Bool.not_eq_false', decide_eq_true_eq, decide_eq_false_iff_not, beq_iff_eq, bne_iff_ne, beq_eq_false_iff_ne, bne_eq_false_iff_eq] at c32')
    refine wp_exit ?_
    refine hK12 _ _ ?_
    refine wp_seq_k fun K53 hK53 => ?_
    refine wp_region_lit ?_
    refine q_is rfl rfl (does_move (u := (.slice p27 ((wordL n_ k).length) q28)) (ev rfl)) (by dsimp only [List.set]; try rfl) ?_
    refine q_is rfl rfl (does_conv_bytes (xs := (wordL n_ k)) Try.underlying136 Try.underlying5 Try.underlying9 (ev rfl) hH29.get) (by dsimp only [List.set]; try rfl) ?_
    refine q_is rfl rfl (does_assign (u := (.string (strOfNums (wordL n_ k)))) (ev rfl)) (by dsimp only [List.set]; try rfl) ?_
    refine wpList_nil (hK53 _ _ ?_)
    refine wp_ret ?_
    refine ret_val (v := (.string (strOfNums (wordL n_ k)))) (res_T rfl (slot rfl)) X26 ?_
    have x54 : (wordS n_ many.toNat) = (strOfNums (wordL n_ k)) := by (rw [show many.toNat = k by omega] <;> rfl)
    exact (by first | with_reducible rfl | rw [x54] | rfl)

/- spec.l01Bits -/
theorem c_spec_l01Bits (x_ : Nat) (w : World) : Gives Try.prog 83 #[(Fl x_)] w (fun v w' => v = (Iv (bitsF (cf .f32 x_)))) := by
  refine enter [(Fl x_), Ud, Ud, Ud, Ud, Ud, Ud, Ud, Ud] Try.func83 rfl Try.ntmps83 rfl ?_
  refine wp_seq_k fun K1 hK1 => ?_
  refine wp_region_lit ?_
  refine q_is (l' := [(Fl x_), Ud, (Iv 0), Ud, Ud, Ud, Ud, Ud, Ud]) rfl rfl (does_assign (u := (Iv 0)) (ev rfl)) rfl ?_
  refine wpList_nil (hK1 _ _ ?_)
  refine wp_seq_k fun K2 hK2 => ?_
  refine wp_seq_k fun K3 hK3 => ?_
  refine wp_region_lit ?_
  refine q_is (l' := [(Fl x_), Ud, (Iv 0), (Fl x_), Ud, Ud, Ud, Ud, Ud]) rfl rfl (does_move (u := (Fl x_)) (ev rfl)) rfl ?_
  refine q_is (l' := [(Fl x_), Ud, (Iv 0), (Fl x_), (Fl x_), Ud, Ud, Ud, Ud]) rfl rfl (does_move (u := (Fl x_)) (ev rfl)) rfl ?_
  refine q_is (l' := [(Fl x_), Ud, (Iv 0), (Fl x_), (Fl x_), (Bo (fcmp .neq (ford .f32 (cf .f32 x_) (cf .f32 x_)))), Ud, Ud, Ud]) rfl rfl (does_fcmp (.inr (.inl rfl)) (ev rfl) (ev rfl)) rfl ?_
  refine wpList_nil (hK3 _ _ ?_)
  refine wp_cond_split (t := fcmp .neq (ford .f32 (cf .f32 x_) (cf .f32 x_))) (ev rfl) (fun c4 => ?_) (fun c4 => ?_)
  · have c4' := c4
    refine wp_seq_k fun K5 hK5 => ?_
    refine wp_region_lit ?_
    refine q_is (l' := [(Fl x_), Ud, (Iv 2143289344), (Fl x_), (Fl x_), (Bo (fcmp .neq (ford .f32 (cf .f32 x_) (cf .f32 x_)))), Ud, Ud, Ud]) rfl rfl (does_assign (u := (Iv 2143289344)) (ev rfl)) rfl ?_
    refine wpList_nil (hK5 _ _ ?_)
    refine wp_ret ?_
    dsimp only [Exit.then, Exit.inBlock]
    refine ret_val (v := (Iv 2143289344)) (res_T rfl (slot rfl)) (Ext.refl w) ?_
    have x6 : (bitsF (cf .f32 x_) : Int) = 2143289344 := by first | exact bits_nan (by assumption) | exact bits_num (by assumption)
    exact (by first | with_reducible rfl | rw [x6] | rfl)
  have c4' := c4
  refine wp_skip (hK2 _ _ ?_)
  refine wp_seq_k fun K7 hK7 => ?_
  refine wp_region_lit ?_
  refine q_is (l' := [(Fl x_), Ud, (Iv 0), (Fl x_), (Fl x_), (Bo (fcmp .neq (ford .f32 (cf .f32 x_) (cf .f32 x_)))), (Fl x_), Ud, Ud]) rfl rfl (does_move (u := (Fl x_)) (ev rfl)) rfl ?_
  refine q_is (l' := [(Fl x_), Ud, (Iv 0), (Fl x_), (Fl x_), (Bo (fcmp .neq (ford .f32 (cf .f32 x_) (cf .f32 x_)))), (Fl x_), (.int .u32 (x_ : Int)), Ud]) rfl rfl (does_bits (p := x_) (ev rfl) cfb102) rfl ?_
  refine q_is (l' := [(Fl x_), Ud, (Iv 0), (Fl x_), (Fl x_), (Bo (fcmp .neq (ford .f32 (cf .f32 x_) (cf .f32 x_)))), (Fl x_), (.int .u32 (x_ : Int)), (Iv (IntKind.i64.wrap (x_ : Int)))]) rfl rfl (does_conv_ii (r := IntKind.i64.wrap (x_ : Int)) (k := .u32) (k' := .i64) (n := (x_ : Int)) Try.underlying152 Try.underlying2 (ev rfl) rfl) rfl ?_
  refine q_is (l' := [(Fl x_), Ud, (Iv (IntKind.i64.wrap (x_ : Int))), (Fl x_), (Fl x_), (Bo (fcmp .neq (ford .f32 (cf .f32 x_) (cf .f32 x_)))), (Fl x_), (.int .u32 (x_ : Int)), (Iv (IntKind.i64.wrap (x_ : Int)))]) rfl rfl (does_assign (u := (Iv (IntKind.i64.wrap (x_ : Int)))) (ev rfl)) rfl ?_
  refine wpList_nil (hK7 _ _ ?_)
  refine wp_ret ?_
  refine ret_val (v := (Iv (IntKind.i64.wrap (x_ : Int)))) (res_T rfl (slot rfl)) (Ext.refl w) ?_
  have x8 : (bitsF (cf .f32 x_) : Int) = (IntKind.i64.wrap (x_ : Int)) := by first | exact bits_nan (by assumption) | exact bits_num (by assumption)
  exact (by first | with_reducible rfl | rw [x8] | rfl)

/- spec.l10Floats -/
theorem c_spec_l10Floats (xs : Value) (L_xs : List Nat) (w : World) (hv_xs : Sl RF 1 w xs L_xs) (hfl : L_xs.length ≤ 1000000) : Gives Try.prog 53 #[xs] w (fun v w' => v = (.string (fltS L_xs L_xs.length))) := by
  have hlen_xs := Sl.len hv_xs; obtain ⟨p_xs, q_xs, rfl⟩ := Sl.shape hv_xs
  refine enter [(.slice p_xs L_xs.length q_xs), Ud, Ud, Ud, Ud, Ud, Ud, Ud, Ud, Ud, Ud, Ud, Ud, Ud, Ud, Ud, Ud, Ud, Ud, Ud] Try.func53 rfl Try.ntmps53 rfl ?_
  refine wp_seq_k fun K1 hK1 => ?_
  refine wp_region_lit ?_
  refine q_is (l' := [(.slice p_xs L_xs.length q_xs), Ud, (.string (⟨#[]⟩)), Ud, Ud, Ud, Ud, Ud, Ud, Ud, Ud, Ud, Ud, Ud, Ud, Ud, Ud, Ud, Ud, Ud]) rfl rfl (does_assign (u := (.string (⟨#[]⟩))) (ev rfl)) rfl ?_
  refine wpList_nil (hK1 _ _ ?_)
  refine wp_seq_k fun K2 hK2 => ?_
  refine wp_region_lit ?_
  refine q_is (l' := [(.slice p_xs L_xs.length q_xs), Ud, (.string (⟨#[]⟩)), (.string (⟨#[]⟩)), Ud, Ud, Ud, Ud, Ud, Ud, Ud, Ud, Ud, Ud, Ud, Ud, Ud, Ud, Ud, Ud]) rfl rfl (does_assign (u := (.string (⟨#[]⟩))) (ev rfl)) rfl ?_
  refine wpList_nil (hK2 _ _ ?_)
  refine wp_seq_k fun K3 hK3 => ?_
  refine wp_seq_k fun K4 hK4 => ?_
  refine wp_region_lit ?_
  refine q_is (l' := [(.slice p_xs L_xs.length q_xs), Ud, (.string (⟨#[]⟩)), (.string (⟨#[]⟩)), (Iv 0), Ud, Ud, Ud, Ud, Ud, Ud, Ud, Ud, Ud, Ud, Ud, Ud, Ud, Ud, Ud]) rfl rfl (does_assign (u := (Iv 0)) (ev rfl)) rfl ?_
  refine wpList_nil (hK4 _ _ ?_)
  refine wp_block ?_
  refine loop_ghost (σ := Nat) (fun k a w' => ∃ u5 : Nat → Value, a = fr [(.slice p_xs L_xs.length q_xs), Ud, (.string (⟨#[]⟩)), (.string (fltS L_xs k)), (Iv (k : Int)), (u5 5), (u5 6), (u5 7), (u5 8), (u5 9), (u5 10), (u5 11), (u5 12), (u5 13), (u5 14), (u5 15), (u5 16), (u5 17), (u5 18), Ud] ∧ Ext w w' ∧ (k ≤ L_xs.length)) (fun k => L_xs.length - k) 0 ?_ ?_
  · refine ⟨fun t => (([(.slice p_xs L_xs.length q_xs), Ud, (.string (⟨#[]⟩)), (.string (⟨#[]⟩)), (Iv 0), Ud, Ud, Ud, Ud, Ud, Ud, Ud, Ud, Ud, Ud, Ud, Ud, Ud, Ud, Ud] : List Value)[t]?).getD undef, rfl, Ext.refl _, ?_⟩
    exact Nat.zero_le _
  · rintro k a w6 ⟨u5, rfl, E7, hk⟩
    have X9 := Ext.gr (Ext.refl w) E7
    have hfz := fltS_size L_xs k
    refine wp_seq_k fun K10 hK10 => ?_
    refine wp_seq_k fun K11 hK11 => ?_
    refine wp_region_lit ?_
    refine q_is (l' := [(.slice p_xs L_xs.length q_xs), Ud, (.string (⟨#[]⟩)), (.string (fltS L_xs k)), (Iv (k : Int)), (Iv (k : Int)), (u5 6), (u5 7), (u5 8), (u5 9), (u5 10), (u5 11), (u5 12), (u5 13), (u5 14), (u5 15), (u5 16), (u5 17), (u5 18), Ud]) rfl rfl (does_move (u := (Iv (k : Int))) (ev rfl)) rfl ?_
    refine q_is (l' := [(.slice p_xs L_xs.length q_xs), Ud, (.string (⟨#[]⟩)), (.string (fltS L_xs k)), (Iv (k : Int)), (Iv (k : Int)), (.slice p_xs L_xs.length q_xs), (u5 7), (u5 8), (u5 9), (u5 10), (u5 11), (u5 12), (u5 13), (u5 14), (u5 15), (u5 16), (u5 17), (u5 18), Ud]) rfl rfl (does_move (u := (.slice p_xs L_xs.length q_xs)) (ev rfl)) rfl ?_
    refine q_is (l' := [(.slice p_xs L_xs.length q_xs), Ud, (.string (⟨#[]⟩)), (.string (fltS L_xs k)), (Iv (k : Int)), (Iv (k : Int)), (.slice p_xs L_xs.length q_xs), (Iv (L_xs.length : Int)), (u5 8), (u5 9), (u5 10), (u5 11), (u5 12), (u5 13), (u5 14), (u5 15), (u5 16), (u5 17), (u5 18), Ud]) rfl rfl (does_len_slice Try.underlying97 (ev rfl)) rfl ?_
    refine q_is (l' := [(.slice p_xs L_xs.length q_xs), Ud, (.string (⟨#[]⟩)), (.string (fltS L_xs k)), (Iv (k : Int)), (Iv (k : Int)), (.slice p_xs L_xs.length q_xs), (Iv (L_xs.length : Int)), (Bo (icmp .lss (k : Int) (L_xs.length : Int))), (u5 9), (u5 10), (u5 11), (u5 12), (u5 13), (u5 14), (u5 15), (u5 16), (u5 17), (u5 18), Ud]) rfl rfl (does_icmp (p := (k : Int)) (q := (L_xs.length : Int)) (.inr (.inr (.inl rfl))) (ev rfl) (ev rfl)) rfl ?_
    refine wpList_nil (hK11 _ _ ?_)
    refine wp_cond_split (t := icmp .lss (k : Int) (L_xs.length : Int)) (ev rfl) (fun c12 => ?_) (fun c12 => ?_)
    · have c12' := c12
      (try simp only [icmp, Bool.and_eq_true, Bool.or_eq_true, Bool.and_eq_false_iff, Bool.or_eq_false_iff, Bool.not_eq_true', Bool.not_eq_false', decide_eq_true_eq, decide_eq_false_iff_not, beq_iff_eq, bne_iff_ne, beq_eq_false_iff_ne, bne_eq_false_iff_eq] at c12')
      refine wp_skip (hK10 _ _ ?_)
      refine wp_seq_k fun K13 hK13 => ?_
      refine wp_block ?_
      refine wp_region_lit ?_
      refine q_is (l' := [(.slice p_xs L_xs.length q_xs), Ud, (.string (⟨#[]⟩)), (.string (fltS L_xs k)), (Iv (k : Int)), (Iv (k : Int)), (.slice p_xs L_xs.length q_xs), (Iv (L_xs.length : Int)), (Bo (icmp .lss (k : Int) (L_xs.length : Int))), (u5 9), (u5 10), (.string (fltS L_xs k)), (u5 12), (u5 13), (u5 14), (u5 15), (u5 16), (u5 17), (u5 18), Ud]) rfl rfl (does_move (u := (.string (fltS L_xs k))) (ev rfl)) rfl ?_
      refine q_is (l' := [(.slice p_xs L_xs.length q_xs), Ud, (.string (⟨#[]⟩)), (.string (fltS L_xs k)), (Iv (k : Int)), (Iv (k : Int)), (.slice p_xs L_xs.length q_xs), (Iv (L_xs.length : Int)), (Bo (icmp .lss (k : Int) (L_xs.length : Int))), (u5 9), (u5 10), (.string (fltS L_xs k)), (.slice p_xs L_xs.length q_xs), (u5 13), (u5 14), (u5 15), (u5 16), (u5 17), (u5 18), Ud]) rfl rfl (does_move (u := (.slice p_xs L_xs.length q_xs)) (ev rfl)) rfl ?_
      refine q_is (l' := [(.slice p_xs L_xs.length q_xs), Ud, (.string (⟨#[]⟩)), (.string (fltS L_xs k)), (Iv (k : Int)), (Iv (k : Int)), (.slice p_xs L_xs.length q_xs), (Iv (L_xs.length : Int)), (Bo (icmp .lss (k : Int) (L_xs.length : Int))), (u5 9), (u5 10), (.string (fltS L_xs k)), (.slice p_xs L_xs.length q_xs), (Iv (k : Int)), (u5 14), (u5 15), (u5 16), (u5 17), (u5 18), Ud]) rfl rfl (does_move (u := (Iv (k : Int))) (ev rfl)) rfl ?_
      obtain ⟨el1, hel1⟩ : ∃ e, L_xs[k]? = some e := ⟨_, List.getElem?_eq_getElem (by omega)⟩
      refine seqd rfl rfl (does_indexSl (R := RF) (i := (k : Int)) (xs := L_xs) (e := el1) Try.underlying97 Try.sizeOf38 (ev rfl) (ev rfl) (Sl.ext hv_xs RF.mono X9) (by omega) hel1) ?_; rintro _ w6 ⟨b14, o15, _, rfl, hc17, ⟨r18, rfl, h19⟩, rfl⟩
      show wpList _ _ _ _ (fr [(.slice p_xs L_xs.length q_xs), Ud, (.string (⟨#[]⟩)), (.string (fltS L_xs k)), (Iv (k : Int)), (Iv (k : Int)), (.slice p_xs L_xs.length q_xs), (Iv (L_xs.length : Int)), (Bo (icmp .lss (k : Int) (L_xs.length : Int))), (u5 9), (u5 10), (.string (fltS L_xs k)), (.slice p_xs L_xs.length q_xs), (Iv (k : Int)), (Pt b14 o15), (u5 15), (u5 16), (u5 17), (u5 18), Ud]) _
      refine q_is (l' := [(.slice p_xs L_xs.length q_xs), Ud, (.string (⟨#[]⟩)), (.string (fltS L_xs k)), (Iv (k : Int)), (Iv (k : Int)), (.slice p_xs L_xs.length q_xs), (Iv (L_xs.length : Int)), (Bo (icmp .lss (k : Int) (L_xs.length : Int))), (u5 9), (u5 10), (.string (fltS L_xs k)), (.slice p_xs L_xs.length q_xs), (Iv (k : Int)), (Pt b14 o15), (Fl r18), (u5 16), (u5 17), (u5 18), Ud]) rfl rfl (does_load (u := (Fl r18)) (ev rfl) Try.isAgg38 (Cells.at hc17 0 rfl)) rfl ?_
      refine seqd rfl rfl (does_call (args := #[(Fl r18)]) cal83 (evs rfl) (c_spec_l01Bits r18 _)) ?_; rintro _ w21 ⟨E20, rfl⟩
      have X22 := Ext.gr X9 E20
      show wpList _ _ _ _ (fr [(.slice p_xs L_xs.length q_xs), Ud, (.string (⟨#[]⟩)), (.string (fltS L_xs k)), (Iv (k : Int)), (Iv (k : Int)), (.slice p_xs L_xs.length q_xs), (Iv (L_xs.length : Int)), (Bo (icmp .lss (k : Int) (L_xs.length : Int))), (u5 9), (u5 10), (.string (fltS L_xs k)), (.slice p_xs L_xs.length q_xs), (Iv (k : Int)), (Pt b14 o15), (Fl r18), (Iv (bitsF (cf .f32 r18))), (u5 17), (u5 18), Ud]) _
      refine seqd rfl rfl (does_call (args := #[(Iv (bitsF (cf .f32 r18))), (Iv 4)]) cal52 (evs rfl) (c_spec_l10Word (bitsF (cf .f32 r18)) 4 _ (by omega))) ?_; rintro _ w24 ⟨E23, rfl⟩
      have X25 := Ext.gr X22 E23
      show wpList _ _ _ _ (fr [(.slice p_xs L_xs.length q_xs), Ud, (.string (⟨#[]⟩)), (.string (fltS L_xs k)), (Iv (k : Int)), (Iv (k : Int)), (.slice p_xs L_xs.length q_xs), (Iv (L_xs.length : Int)), (Bo (icmp .lss (k : Int) (L_xs.length : Int))), (u5 9), (u5 10), (.string (fltS L_xs k)), (.slice p_xs L_xs.length q_xs), (Iv (k : Int)), (Pt b14 o15), (Fl r18), (Iv (bitsF (cf .f32 r18))), (.string (wordS (bitsF (cf .f32 r18)) (4 : Int).toNat)), (u5 18), Ud]) _
      refine q_is (l' := [(.slice p_xs L_xs.length q_xs), Ud, (.string (⟨#[]⟩)), (.string (fltS L_xs k)), (Iv (k : Int)), (Iv (k : Int)), (.slice p_xs L_xs.length q_xs), (Iv (L_xs.length : Int)), (Bo (icmp .lss (k : Int) (L_xs.length : Int))), (u5 9), (u5 10), (.string (fltS L_xs k)), (.slice p_xs L_xs.length q_xs), (Iv (k : Int)), (Pt b14 o15), (Fl r18), (Iv (bitsF (cf .f32 r18))), (.string (wordS (bitsF (cf .f32 r18)) (4 : Int).toNat)), (.string ((fltS L_xs k) ++ (wordS (bitsF (cf .f32 r18)) (4 : Int).toNat))), Ud]) rfl rfl (does_sadd (p := (fltS L_xs k)) (q := (wordS (bitsF (cf .f32 r18)) (4 : Int).toNat)) (ev rfl) (ev rfl) (by first | omega | (simp only [wordS_size, fltS_size, wordT4]; omega))) rfl ?_
      refine q_is (l' := [(.slice p_xs L_xs.length q_xs), Ud, (.string (⟨#[]⟩)), (.string ((fltS L_xs k) ++ (wordS (bitsF (cf .f32 r18)) (4 : Int).toNat))), (Iv (k : Int)), (Iv (k : Int)), (.slice p_xs L_xs.length q_xs), (Iv (L_xs.length : Int)), (Bo (icmp .lss (k : Int) (L_xs.length : Int))), (u5 9), (u5 10), (.string (fltS L_xs k)), (.slice p_xs L_xs.length q_xs), (Iv (k : Int)), (Pt b14 o15), (Fl r18), (Iv (bitsF (cf .f32 r18))), (.string (wordS (bitsF (cf .f32 r18)) (4 : Int).toNat)), (.string ((fltS L_xs k) ++ (wordS (bitsF (cf .f32 r18)) (4 : Int).toNat))), Ud]) rfl rfl (does_assign (u := (.string ((fltS L_xs k) ++ (wordS (bitsF (cf .f32 r18)) (4 : Int).toNat)))) (ev rfl)) rfl ?_
      refine wpList_nil (hK13 _ _ ?_)
      refine wp_region_lit ?_
      refine q_is (l' := [(.slice p_xs L_xs.length q_xs), Ud, (.string (⟨#[]⟩)), (.string ((fltS L_xs k) ++ (wordS (bitsF (cf .f32 r18)) (4 : Int).toNat))), (Iv (k : Int)), (Iv (k : Int)), (.slice p_xs L_xs.length q_xs), (Iv (L_xs.length : Int)), (Bo (icmp .lss (k : Int) (L_xs.length : Int))), (Iv (k : Int)), (u5 10), (.string (fltS L_xs k)), (.slice p_xs L_xs.length q_xs), (Iv (k : Int)), (Pt b14 o15), (Fl r18), (Iv (bitsF (cf .f32 r18))), (.string (wordS (bitsF (cf .f32 r18)) (4 : Int).toNat)), (.string ((fltS L_xs k) ++ (wordS (bitsF (cf .f32 r18)) (4 : Int).toNat))), Ud]) rfl rfl (does_move (u := (Iv (k : Int))) (ev rfl)) rfl ?_
      refine q_is (l' := [(.slice p_xs L_xs.length q_xs), Ud, (.string (⟨#[]⟩)), (.string ((fltS L_xs k) ++ (wordS (bitsF (cf .f32 r18)) (4 : Int).toNat))), (Iv (k : Int)), (Iv (k : Int)), (.slice p_xs L_xs.length q_xs), (Iv (L_xs.length : Int)), (Bo (icmp .lss (k : Int) (L_xs.length : Int))), (Iv (k : Int)), (Iv ((k : Int) + 1)), (.string (fltS L_xs k)), (.slice p_xs L_xs.length q_xs), (Iv (k : Int)), (Pt b14 o15), (Fl r18), (Iv (bitsF (cf .f32 r18))), (.string (wordS (bitsF (cf .f32 r18)) (4 : Int).toNat)), (.string ((fltS L_xs k) ++ (wordS (bitsF (cf .f32 r18)) (4 : Int).toNat))), Ud]) rfl rfl (does_iarith (p := (k : Int)) (q := 1) (r := (k : Int) + 1) (ev rfl) (ev rfl) (.inl ⟨rfl, (in_i64 (by omega) (by omega)).symm⟩)) rfl ?_
      refine q_is (l' := [(.slice p_xs L_xs.length q_xs), Ud, (.string (⟨#[]⟩)), (.string ((fltS L_xs k) ++ (wordS (bitsF (cf .f32 r18)) (4 : Int).toNat))), (Iv ((k : Int) + 1)), (Iv (k : Int)), (.slice p_xs L_xs.length q_xs), (Iv (L_xs.length : Int)), (Bo (icmp .lss (k : Int) (L_xs.length : Int))), (Iv (k : Int)), (Iv ((k : Int) + 1)), (.string (fltS L_xs k)), (.slice p_xs L_xs.length q_xs), (Iv (k : Int)), (Pt b14 o15), (Fl r18), (Iv (bitsF (cf .f32 r18))), (.string (wordS (bitsF (cf .f32 r18)) (4 : Int).toNat)), (.string ((fltS L_xs k) ++ (wordS (bitsF (cf .f32 r18)) (4 : Int).toNat))), Ud]) rfl rfl (does_assign (u := (Iv ((k : Int) + 1))) (ev rfl)) rfl ?_
      refine wpList_nil ?_
      refine ⟨k + 1, ⟨fun t => (([(.slice p_xs L_xs.length q_xs), Ud, (.string (⟨#[]⟩)), (.string ((fltS L_xs k) ++ (wordS (bitsF (cf .f32 r18)) (4 : Int).toNat))), (Iv ((k : Int) + 1)), (Iv (k : Int)), (.slice p_xs L_xs.length q_xs), (Iv (L_xs.length : Int)), (Bo (icmp .lss (k : Int) (L_xs.length : Int))), (Iv (k : Int)), (Iv ((k : Int) + 1)), (.string (fltS L_xs k)), (.slice p_xs L_xs.length q_xs), (Iv (k : Int)), (Pt b14 o15), (Fl r18), (Iv (bitsF (cf .f32 r18))), (.string (wordS (bitsF (cf .f32 r18)) (4 : Int).toNat)), (.string ((fltS L_xs k) ++ (wordS (bitsF (cf .f32 r18)) (4 : Int).toNat))), Ud] : List Value)[t]?).getD undef, ?_, (Ext.gr (Ext.gr E7 E20) E23), ?_⟩, ?_⟩
      · first | rfl | (rw [← fltS_succ hel1]; simp only [hel1, h19, wordT4, Int.natCast_add, Int.natCast_one] <;> rfl)
      · omega
      · omega
    have c12' := c12
    (try simp only [icmp, Bool.and_eq_true, Bool.or_eq_true, Bool.and_eq_false_iff, Bool.or_eq_false_iff, Bool.not_eq_true', Bool.not_eq_false', decide_eq_true_eq, decide_eq_false_iff_not, beq_iff_eq, bne_iff_ne, beq_eq_false_iff_ne, bne_eq_false_iff_eq] at c12')
    refine wp_exit ?_
    refine hK3 _ _ ?_
    refine wp_seq_k fun K26 hK26 => ?_
    refine wp_region_lit ?_
    refine q_is (l' := [(.slice p_xs L_xs.length q_xs), Ud, (.string (⟨#[]⟩)), (.string (fltS L_xs k)), (Iv (k : Int)), (Iv (k : Int)), (.slice p_xs L_xs.length q_xs), (Iv (L_xs.length : Int)), (Bo (icmp .lss (k : Int) (L_xs.length : Int))), (u5 9), (u5 10), (u5 11), (u5 12), (u5 13), (u5 14), (u5 15), (u5 16), (u5 17), (u5 18), (.string (fltS L_xs k))]) rfl rfl (does_move (u := (.string (fltS L_xs k))) (ev rfl)) rfl ?_
    refine q_is (l' := [(.slice p_xs L_xs.length q_xs), Ud, (.string (fltS L_xs k)), (.string (fltS L_xs k)), (Iv (k : Int)), (Iv (k : Int)), (.slice p_xs L_xs.length q_xs), (Iv (L_xs.length : Int)), (Bo (icmp .lss (k : Int) (L_xs.length : Int))), (u5 9), (u5 10), (u5 11), (u5 12), (u5 13), (u5 14), (u5 15), (u5 16), (u5 17), (u5 18), (.string (fltS L_xs k))]) rfl rfl (does_assign (u := (.string (fltS L_xs k))) (ev rfl)) rfl ?_
    refine wpList_nil (hK26 _ _ ?_)
    refine wp_ret ?_
    refine ret_val (v := (.string (fltS L_xs k))) (res_T rfl (slot rfl)) X9 ?_
    have x27 : (fltS L_xs L_xs.length) = (fltS L_xs k) := by (rw [show L_xs.length = k by omega])
    exact (by first | with_reducible rfl | rw [x27] | rfl)

/- spec.l10Shape -/
theorem c_spec_l10Shape (s__b : Nat) (s__o : Nat) (s_ : List Value) (A_s_ : ShapeT) (w : World) (hc_s_ : Cells w s__b s__o s_) (hv_s_ : RShapeT w A_s_ s_) (hsh : isShape A_s_ = true) : Gives Try.prog 24 #[(Pt s__b s__o)] w (fun v w' => v = (.string (shpS A_s_.nodes A_s_.nodes.length))) := by
  obtain ⟨y1, rfl, h2⟩ := hv_s_
  have hs5 := h2; have hs5l := Sl.len h2; obtain ⟨p3, q4, rfl⟩ := Sl.shape h2
  have hnu := shape_nums hsh
  have hbd := isShape_bd hsh
  refine enter [(Pt s__b s__o), Ud, Ud, Ud, Ud, Ud, Ud, Ud, Ud, Ud, Ud, Ud, Ud, Ud, Ud, Ud, Ud, Ud, Ud, Ud, Ud, Ud, Ud, Ud, Ud, Ud, Ud, Ud, Ud, Ud, Ud, Ud, Ud, Ud, Ud, Ud, Ud, Ud, Ud, Ud, Ud, Ud, Ud, Ud, Ud, Ud, Ud, Ud, Ud, Ud, Ud, Ud, Ud] Try.func24 rfl Try.ntmps24 rfl ?_
  refine wp_seq_k fun K6 hK6 => ?_
  refine wp_region_lit ?_
  refine q_is rfl rfl (does_assign (u := (.string (⟨#[]⟩))) (ev rfl)) (by dsimp only [List.set]; try rfl) ?_
  refine wpList_nil (hK6 _ _ ?_)
  refine wp_seq_k fun K7 hK7 => ?_
  refine wp_region_lit ?_
  refine q_is rfl rfl (does_move (u := (Pt s__b s__o)) (ev rfl)) (by dsimp only [List.set]; try rfl) ?_
  refine q_is rfl rfl (does_nilCheck (ev rfl)) (by dsimp only [List.set]; try rfl) ?_
  refine q_is rfl rfl (does_fieldAddr (ev rfl) fa30_0) (by dsimp only [List.set]; try rfl) ?_
  refine q_is rfl rfl (does_load (u := (.slice p3 A_s_.nodes.length q4)) (ev rfl) Try.isAgg28 (Cells.at hc_s_ 0 rfl)) (by dsimp only [List.set]; try rfl) ?_
  refine q_is rfl rfl (does_len_slice Try.underlying28 (ev rfl)) (by dsimp only [List.set]; try rfl) ?_
  refine seqd rfl rfl (does_call (args := #[(Iv (A_s_.nodes.length : Int)), (Iv 1)]) cal52 (evs rfl) (c_spec_l10Word (A_s_.nodes.length : Int) 1 _ (by omega))) ?_; rintro _ w9 ⟨E8, rfl⟩
  have X10 := Ext.gr (Ext.refl w) E8
  show wpList _ _ _ _ (fr [_, _, _, _, _, _, _, _, _, _, _, _, _, _, _, _, _, _, _, _, _, _, _, _, _, _, _, _, _, _, _, _, _, _, _, _, _, _, _, _, _, _, _, _, _, _, _, _, _, _, _, _, _]) _
  refine q_is rfl rfl (does_assign (u := (.string (wordS (A_s_.nodes.length : Int) (1 : Int).toNat))) (ev rfl)) (by dsimp only [List.set]; try rfl) ?_
  refine wpList_nil (hK7 _ _ ?_)
  refine wp_seq_k fun K11 hK11 => ?_
  refine wp_seq_k fun K12 hK12 => ?_
  refine wp_region_lit ?_
  refine q_is rfl rfl (does_assign (u := (Iv 0)) (ev rfl)) (by dsimp only [List.set]; try rfl) ?_
  refine wpList_nil (hK12 _ _ ?_)
  refine wp_block ?_
  refine loop_ghost (σ := Nat) (fun k a w' => ∃ u13 : Nat → Value, a = fr [(Pt s__b s__o), Ud, (.string (⟨#[]⟩)), (.string (shpS A_s_.nodes k)), (Iv (k : Int)), (u13 5), (Pt s__b s__o), (Pt s__b s__o), (Pt s__b s__o), (.slice p3 A_s_.nodes.length q4), (Iv (A_s_.nodes.length : Int)), (.string (wordS (A_s_.nodes.length : Int) (1 : Int).toNat)), (u13 12), (u13 13), (u13 14), (u13 15), (u13 16), (u13 17), (u13 18), (u13 19), (u13 20), (u13 21), (u13 22), (u13 23), (u13 24), (u13 25), (u13 26), (u13 27), (u13 28), (u13 29), (u13 30), (u13 31), (u13 32), (u13 33), (u13 34), (u13 35), (u13 36), (u13 37), (u13 38), (u13 39), (u13 40), (u13 41), (u13 42), (u13 43), (u13 44), (u13 45), (u13 46), (u13 47), (u13 48), (u13 49), (u13 50), (u13 51), Ud] ∧ Ext w9 w' ∧ (k ≤ A_s_.nodes.length)) (fun k => A_s_.nodes.length - k) 0 ?_ ?_
  · refine ⟨fun t => (([(Pt s__b s__o), Ud, (.string (⟨#[]⟩)), (.string (wordS (A_s_.nodes.length : Int) (1 : Int).toNat)), (Iv 0), Ud, (Pt s__b s__o), (Pt s__b s__o), (Pt s__b s__o), (.slice p3 A_s_.nodes.length q4), (Iv (A_s_.nodes.length : Int)), (.string (wordS (A_s_.nodes.length : Int) (1 : Int).toNat)), Ud, Ud, Ud, Ud, Ud, Ud, Ud, Ud, Ud, Ud, Ud, Ud, Ud, Ud, Ud, Ud, Ud, Ud, Ud, Ud, Ud, Ud, Ud, Ud, Ud, Ud, Ud, Ud, Ud, Ud, Ud, Ud, Ud, Ud, Ud, Ud, Ud, Ud, Ud, Ud, Ud] : List Value)[t]?).getD undef, rfl, Ext.refl _, ?_⟩
    exact Nat.zero_le _
  · rintro k a w14 ⟨u13, rfl, E15, hk⟩
    have X17 := Ext.gr X10 E15
    have hsz := shpS_size hnu k
    refine wp_seq_k fun K18 hK18 => ?_
    refine wp_seq_k fun K19 hK19 => ?_
    refine wp_region_lit ?_
    refine q_is rfl rfl (does_move (u := (Iv (k : Int))) (ev rfl)) (by dsimp only [List.set]; try rfl) ?_
    refine q_is rfl rfl (does_move (u := (Pt s__b s__o)) (ev rfl)) (by dsimp only [List.set]; try rfl) ?_
    refine q_is rfl rfl (does_nilCheck (ev rfl)) (by dsimp only [List.set]; try rfl) ?_
    refine q_is rfl rfl (does_fieldAddr (ev rfl) fa30_0) (by dsimp only [List.set]; try rfl) ?_
    refine q_is rfl rfl (does_load (u := (.slice p3 A_s_.nodes.length q4)) (ev rfl) Try.isAgg28 (Cells.at (hc_s_.ext X17) 0 rfl)) (by dsimp only [List.set]; try rfl) ?_
    refine q_is rfl rfl (does_len_slice Try.underlying28 (ev rfl)) (by dsimp only [List.set]; try rfl) ?_
    refine q_is rfl rfl (does_icmp (p := (k : Int)) (q := (A_s_.nodes.length : Int)) (.inr (.inr (.inl rfl))) (ev rfl) (ev rfl)) (by dsimp only [List.set]; try rfl) ?_
    refine wpList_nil (hK19 _ _ ?_)
    refine wp_cond_split (t := icmp .lss (k : Int) (A_s_.nodes.length : Int)) (ev rfl) (fun c20 => ?_) (fun c20 => ?_)
    · have c20' := c20
      (try simp only [icmp, Bool.and_eq_true, Bool.or_eq_true, Bool.and_eq_false_iff, Bool.or_eq_false_iff, Bool.not_eq_true', Bool.not_eq_false', decide_eq_true_eq, decide_eq_false_iff_not, beq_iff_eq, bne_iff_ne, beq_eq_false_iff_ne, bne_eq_false_iff_eq] at c20')
      refine wp_skip (hK18 _ _ ?_)
      refine wp_seq_k fun K21 hK21 => ?_
      refine wp_block ?_
      refine wp_seq_k fun K22 hK22 => ?_
      refine wp_region_lit ?_
      refine q_is rfl rfl (does_move (u := (Pt s__b s__o)) (ev rfl)) (by dsimp only [List.set]; try rfl) ?_
      refine q_is rfl rfl (does_nilCheck (ev rfl)) (by dsimp only [List.set]; try rfl) ?_
      refine q_is rfl rfl (does_fieldAddr (ev rfl) fa30_0) (by dsimp only [List.set]; try rfl) ?_
      refine q_is rfl rfl (does_load (u := (.slice p3 A_s_.nodes.length q4)) (ev rfl) Try.isAgg28 (Cells.at (hc_s_.ext X17) 0 rfl)) (by dsimp only [List.set]; try rfl) ?_
      refine q_is rfl rfl (does_move (u := (Iv (k : Int))) (ev rfl)) (by dsimp only [List.set]; try rfl) ?_
      obtain ⟨el1, hel1⟩ : ∃ e, A_s_.nodes[k]? = some e := ⟨_, List.getElem?_eq_getElem (by omega)⟩
      refine seqd rfl rfl (does_indexSl (R := RNodeT) (i := (k : Int)) (xs := A_s_.nodes) (e := el1) Try.underlying28 Try.sizeOf102 (ev rfl) (ev rfl) (Sl.ext hs5 RNodeT.mono X17) (by omega) hel1) ?_; rintro _ w14 ⟨b23, o24, _, rfl, hc26, ⟨y27, rfl, h28⟩, rfl⟩
      have hs31 := h28; have hs31l := Sl.len h28; obtain ⟨p29, q30, rfl⟩ := Sl.shape h28
      show wpList _ _ _ _ (fr [_, _, _, _, _, _, _, _, _, _, _, _, _, _, _, _, _, _, _, _, _, _, _, _, _, _, _, _, _, _, _, _, _, _, _, _, _, _, _, _, _, _, _, _, _, _, _, _, _, _, _, _, _]) _
      refine q_is rfl rfl (does_assign (u := (Pt b23 o24)) (ev rfl)) (by dsimp only [List.set]; try rfl) ?_
      refine wpList_nil (hK22 _ _ ?_)
      refine region_draw (
        [Fact.pure [] (fun v => v = (.string (shpS A_s_.nodes k))),
    Fact.pure [] (fun v => v = (Pt b23 o24)),
    Fact.pure [28] (fun v => v = (Pt b23 o24)),
    Fact.pure [29] (fun v => v = (Pt b23 o24)),
    Fact.pure [30] (fun v => v = (Iv el1.kind)),
    Fact.pure [31] (fun v => v = (.string (wordS el1.kind (1 : Int).toNat))),
    Fact.pure [] (fun v => v = (Pt b23 o24)),
    Fact.pure [33] (fun v => v = (Pt b23 o24)),
    Fact.pure [34] (fun v => v = (Pt b23 (o24 + 1))),
    Fact.pure [35] (fun v => v = (Iv el1.a)),
    Fact.pure [36] (fun v => v = (.string (wordS el1.a (1 : Int).toNat))),
    Fact.pure [32, 37] (fun v => v = (.string ((wordS el1.kind (1 : Int).toNat) ++ (wordS el1.a (1 : Int).toNat)))),
    Fact.pure [] (fun v => v = (Pt b23 o24)),
    Fact.pure [39] (fun v => v = (Pt b23 o24)),
    Fact.pure [40] (fun v => v = (Pt b23 (o24 + 2))),
    Fact.pure [41] (fun v => v = (Iv el1.b)),
    Fact.pure [42] (fun v => v = (.string (wordS el1.b (1 : Int).toNat))),
    Fact.pure [38, 43] (fun v => v = (.string (((wordS el1.kind (1 : Int).toNat) ++ (wordS el1.a (1 : Int).toNat)) ++ (wordS el1.b (1 : Int).toNat)))),
    Fact.pure [] (fun v => v = (Pt b23 o24)),
    Fact.pure [45] (fun v => v = (Pt b23 o24)),
    Fact.pure [46] (fun v => v = (Pt b23 (o24 + 3))),
    Fact.pure [47] (fun v => v = (.slice p29 el1.nums.length q30)),
    Fact.pure [48] (fun v => v = (.string (fltS el1.nums el1.nums.length))),
    Fact.pure [44, 49] (fun v => v = (.string ((((wordS el1.kind (1 : Int).toNat) ++ (wordS el1.a (1 : Int).toNat)) ++ (wordS el1.b (1 : Int).toNat)) ++ (fltS el1.nums el1.nums.length)))),
    Fact.pure [27, 50] (fun v => v = (.string ((shpS A_s_.nodes k) ++ ((((wordS el1.kind (1 : Int).toNat) ++ (wordS el1.a (1 : Int).toNat)) ++ (wordS el1.b (1 : Int).toNat)) ++ (fltS el1.nums el1.nums.length)))))]) mixed (by kernel_rfl) (by intro _ _ d _ _ h; cases d <;> exact h) ?_
      obtain ⟨w32, hw34⟩ : ∃ w', w' = World.drew w14 := ⟨_, rfl⟩; rw [← hw34]; have E33 : Ext w14 w32 := by rw [hw34]; exact Ext.draw _
      clear hw34
      have X35 := Ext.gr X17 E33
      refine RW_d _ rfl (fun v => by dsimp only [List.set]; try rfl) (fun u hu hF => ?_) (fun v36 => ?_)
      · clear hF
        refine doesG_un rfl ?_
        refine (does_move (u := (.string (shpS A_s_.nodes k))) (ev rfl)).mono ?_; rintro _ _ ⟨rfl, rfl⟩
        exact ⟨rfl, Ext.refl _⟩
      refine RW_d _ rfl (fun v => by dsimp only [List.set]; try rfl) (fun u hu hF => ?_) (fun v37 => ?_)
      · clear hF
        refine doesG_un rfl ?_
        refine (does_move (u := (Pt b23 o24)) (ev rfl)).mono ?_; rintro _ _ ⟨rfl, rfl⟩
        exact ⟨rfl, Ext.refl _⟩
      refine RW_d _ rfl (fun v => by dsimp only [List.set]; try rfl) (fun u hu hF => ?_) (fun v38 => ?_)
      · have h28_ : v37 = (Pt b23 o24) := hF.1
        clear hF
        refine doesG_un rfl ?_
        obtain rfl := h28_
        refine (does_nilCheck (ev rfl)).mono ?_; rintro _ _ ⟨rfl, rfl⟩
        exact ⟨rfl, Ext.refl _⟩
      refine RW_d _ rfl (fun v => by dsimp only [List.set]; try rfl) (fun u hu hF => ?_) (fun v39 => ?_)
      · have h29_ : v38 = (Pt b23 o24) := hF.1
        clear hF
        refine doesG_un rfl ?_
        obtain rfl := h29_
        refine (does_fieldAddr (ev rfl) fa102_0).mono ?_; rintro _ _ ⟨rfl, rfl⟩
        exact ⟨rfl, Ext.refl _⟩
      refine RW_d _ rfl (fun v => by dsimp only [List.set]; try rfl) (fun u hu hF => ?_) (fun v40 => ?_)
      · have h30_ : v39 = (Pt b23 o24) := hF.1
        clear hF
        refine doesG_un rfl ?_
        obtain rfl := h30_
        refine (does_load (u := (Iv el1.kind)) (ev rfl) Try.isAgg2 (Cells.at ((hc26.ext E33).ext hu) 0 rfl)).mono ?_; rintro _ _ ⟨rfl, rfl⟩
        exact ⟨rfl, Ext.refl _⟩
      refine RW_d _ rfl (fun v => by dsimp only [List.set]; try rfl) (fun u hu hF => ?_) (fun v41 => ?_)
      · have h31_ : v40 = (Iv el1.kind) := hF.1
        clear hF
        refine doesG_un rfl ?_
        obtain rfl := h31_
        refine (does_call (args := #[(Iv el1.kind), (Iv 1)]) cal52 (evs rfl) (c_spec_l10Word el1.kind 1 _ (by omega))).mono ?_; rintro v u' ⟨hx, hv⟩
        exact ⟨hv, hx⟩
      refine RW_d _ rfl (fun v => by dsimp only [List.set]; try rfl) (fun u hu hF => ?_) (fun v42 => ?_)
      · clear hF
        refine doesG_un rfl ?_
        refine (does_move (u := (Pt b23 o24)) (ev rfl)).mono ?_; rintro _ _ ⟨rfl, rfl⟩
        exact ⟨rfl, Ext.refl _⟩
      refine RW_d _ rfl (fun v => by dsimp only [List.set]; try rfl) (fun u hu hF => ?_) (fun v43 => ?_)
      · have h33_ : v42 = (Pt b23 o24) := hF.1
        clear hF
        refine doesG_un rfl ?_
        obtain rfl := h33_
        refine (does_nilCheck (ev rfl)).mono ?_; rintro _ _ ⟨rfl, rfl⟩
        exact ⟨rfl, Ext.refl _⟩
      refine RW_d _ rfl (fun v => by dsimp only [List.set]; try rfl) (fun u hu hF => ?_) (fun v44 => ?_)
      · have h34_ : v43 = (Pt b23 o24) := hF.1
        clear hF
        refine doesG_un rfl ?_
        obtain rfl := h34_
        refine (does_fieldAddr (ev rfl) fa102_1).mono ?_; rintro _ _ ⟨rfl, rfl⟩
        exact ⟨rfl, Ext.refl _⟩
      refine RW_d _ rfl (fun v => by dsimp only [List.set]; try rfl) (fun u hu hF => ?_) (fun v45 => ?_)
      · have h35_ : v44 = (Pt b23 (o24 + 1)) := hF.1
        clear hF
        refine doesG_un rfl ?_
        obtain rfl := h35_
        refine (does_load (u := (Iv el1.a)) (ev rfl) Try.isAgg2 (Cells.at ((hc26.ext E33).ext hu) 1 rfl)).mono ?_; rintro _ _ ⟨rfl, rfl⟩
        exact ⟨rfl, Ext.refl _⟩
      refine RW_d _ rfl (fun v => by dsimp only [List.set]; try rfl) (fun u hu hF => ?_) (fun v46 => ?_)
      · have h36_ : v45 = (Iv el1.a) := hF.1
        clear hF
        refine doesG_un rfl ?_
        obtain rfl := h36_
        refine (does_call (args := #[(Iv el1.a), (Iv 1)]) cal52 (evs rfl) (c_spec_l10Word el1.a 1 _ (by omega))).mono ?_; rintro v u' ⟨hx, hv⟩
        exact ⟨hv, hx⟩
      refine RW_d _ rfl (fun v => by dsimp only [List.set]; try rfl) (fun u hu hF => ?_) (fun v47 => ?_)
      · have h32_ : v41 = (.string (wordS el1.kind (1 : Int).toNat)) := hF.1
        have h37_ : v46 = (.string (wordS el1.a (1 : Int).toNat)) := hF.2.1
        clear hF
        refine doesG_un rfl ?_
        obtain rfl := h32_
        obtain rfl := h37_
        refine (does_sadd (p := (wordS el1.kind (1 : Int).toNat)) (q := (wordS el1.a (1 : Int).toNat)) (ev rfl) (ev rfl) (by first | omega | (have hn4 := hnu _ (List.mem_of_getElem? hel1); simp only [ByteArray.size_append, wordT1, wordS_size, fltS_size]; omega))).mono ?_; rintro _ _ ⟨rfl, rfl⟩
        exact ⟨rfl, Ext.refl _⟩
      refine RW_d _ rfl (fun v => by dsimp only [List.set]; try rfl) (fun u hu hF => ?_) (fun v48 => ?_)
      · clear hF
        refine doesG_un rfl ?_
        refine (does_move (u := (Pt b23 o24)) (ev rfl)).mono ?_; rintro _ _ ⟨rfl, rfl⟩
        exact ⟨rfl, Ext.refl _⟩
      refine RW_d _ rfl (fun v => by dsimp only [List.set]; try rfl) (fun u hu hF => ?_) (fun v49 => ?_)
      · have h39_ : v48 = (Pt b23 o24) := hF.1
        clear hF
        refine doesG_un rfl ?_
        obtain rfl := h39_
        refine (does_nilCheck (ev rfl)).mono ?_; rintro _ _ ⟨rfl, rfl⟩
        exact ⟨rfl, Ext.refl _⟩
      refine RW_d _ rfl (fun v => by dsimp only [List.set]; try rfl) (fun u hu hF => ?_) (fun v50 => ?_)
      · have h40_ : v49 = (Pt b23 o24) := hF.1
        clear hF
        refine doesG_un rfl ?_
        obtain rfl := h40_
        refine (does_fieldAddr (ev rfl) fa102_2).mono ?_; rintro _ _ ⟨rfl, rfl⟩
        exact ⟨rfl, Ext.refl _⟩
      refine RW_d _ rfl (fun v => by dsimp only [List.set]; try rfl) (fun u hu hF => ?_) (fun v51 => ?_)
      · have h41_ : v50 = (Pt b23 (o24 + 2)) := hF.1
        clear hF
        refine doesG_un rfl ?_
        obtain rfl := h41_
        refine (does_load (u := (Iv el1.b)) (ev rfl) Try.isAgg2 (Cells.at ((hc26.ext E33).ext hu) 2 rfl)).mono ?_; rintro _ _ ⟨rfl, rfl⟩
        exact ⟨rfl, Ext.refl _⟩
      refine RW_d _ rfl (fun v => by dsimp only [List.set]; try rfl) (fun u hu hF => ?_) (fun v52 => ?_)
      · have h42_ : v51 = (Iv el1.b) := hF.1
        clear hF
        refine doesG_un rfl ?_
        obtain rfl := h42_
        refine (does_call (args := #[(Iv el1.b), (Iv 1)]) cal52 (evs rfl) (c_spec_l10Word el1.b 1 _ (by omega))).mono ?_; rintro v u' ⟨hx, hv⟩
        exact ⟨hv, hx⟩
      refine RW_d _ rfl (fun v => by dsimp only [List.set]; try rfl) (fun u hu hF => ?_) (fun v53 => ?_)
      · have h38_ : v47 = (.string ((wordS el1.kind (1 : Int).toNat) ++ (wordS el1.a (1 : Int).toNat))) := hF.1
        have h43_ : v52 = (.string (wordS el1.b (1 : Int).toNat)) := hF.2.1
        clear hF
        refine doesG_un rfl ?_
        obtain rfl := h38_
        obtain rfl := h43_
        refine (does_sadd (p := ((wordS el1.kind (1 : Int).toNat) ++ (wordS el1.a (1 : Int).toNat))) (q := (wordS el1.b (1 : Int).toNat)) (ev rfl) (ev rfl) (by first | omega | (have hn4 := hnu _ (List.mem_of_getElem? hel1); simp only [ByteArray.size_append, wordT1, wordS_size, fltS_size]; omega))).mono ?_; rintro _ _ ⟨rfl, rfl⟩
        exact ⟨rfl, Ext.refl _⟩
      refine RW_d _ rfl (fun v => by dsimp only [List.set]; try rfl) (fun u hu hF => ?_) (fun v54 => ?_)
      · clear hF
        refine doesG_un rfl ?_
        refine (does_move (u := (Pt b23 o24)) (ev rfl)).mono ?_; rintro _ _ ⟨rfl, rfl⟩
        exact ⟨rfl, Ext.refl _⟩
      refine RW_d _ rfl (fun v => by dsimp only [List.set]; try rfl) (fun u hu hF => ?_) (fun v55 => ?_)
      · have h45_ : v54 = (Pt b23 o24) := hF.1
        clear hF
        refine doesG_un rfl ?_
        obtain rfl := h45_
        refine (does_nilCheck (ev rfl)).mono ?_; rintro _ _ ⟨rfl, rfl⟩
        exact ⟨rfl, Ext.refl _⟩
      refine RW_d _ rfl (fun v => by dsimp only [List.set]; try rfl) (fun u hu hF => ?_) (fun v56 => ?_)
      · have h46_ : v55 = (Pt b23 o24) := hF.1
        clear hF
        refine doesG_un rfl ?_
        obtain rfl := h46_
        refine (does_fieldAddr (ev rfl) fa102_3).mono ?_; rintro _ _ ⟨rfl, rfl⟩
        exact ⟨rfl, Ext.refl _⟩
      refine RW_d _ rfl (fun v => by dsimp only [List.set]; try rfl) (fun u hu hF => ?_) (fun v57 => ?_)
      · have h47_ : v56 = (Pt b23 (o24 + 3)) := hF.1
        clear hF
        refine doesG_un rfl ?_
        obtain rfl := h47_
        refine (does_load (u := (.slice p29 el1.nums.length q30)) (ev rfl) Try.isAgg97 (Cells.at ((hc26.ext E33).ext hu) 3 rfl)).mono ?_; rintro _ _ ⟨rfl, rfl⟩
        exact ⟨rfl, Ext.refl _⟩
      refine RW_d _ rfl (fun v => by dsimp only [List.set]; try rfl) (fun u hu hF => ?_) (fun v58 => ?_)
      · have h48_ : v57 = (.slice p29 el1.nums.length q30) := hF.1
        clear hF
        refine doesG_un rfl ?_
        obtain rfl := h48_
        refine (does_call (args := #[(.slice p29 el1.nums.length q30)]) cal53 (evs rfl) (c_spec_l10Floats (.slice p29 el1.nums.length q30) el1.nums _ (Sl.ext (Sl.ext hs31 RF.mono E33) RF.mono hu) (by have hn4 := hnu _ (List.mem_of_getElem? hel1); omega))).mono ?_; rintro v u' ⟨hx, hv⟩
        exact ⟨hv, hx⟩
      refine RW_d _ rfl (fun v => by dsimp only [List.set]; try rfl) (fun u hu hF => ?_) (fun v59 => ?_)
      · have h44_ : v53 = (.string (((wordS el1.kind (1 : Int).toNat) ++ (wordS el1.a (1 : Int).toNat)) ++ (wordS el1.b (1 : Int).toNat))) := hF.1
        have h49_ : v58 = (.string (fltS el1.nums el1.nums.length)) := hF.2.1
        clear hF
        refine doesG_un rfl ?_
        obtain rfl := h44_
        obtain rfl := h49_
        refine (does_sadd (p := (((wordS el1.kind (1 : Int).toNat) ++ (wordS el1.a (1 : Int).toNat)) ++ (wordS el1.b (1 : Int).toNat))) (q := (fltS el1.nums el1.nums.length)) (ev rfl) (ev rfl) (by first | omega | (have hn4 := hnu _ (List.mem_of_getElem? hel1); simp only [ByteArray.size_append, wordT1, wordS_size, fltS_size]; omega))).mono ?_; rintro _ _ ⟨rfl, rfl⟩
        exact ⟨rfl, Ext.refl _⟩
      refine RW_d _ rfl (fun v => by dsimp only [List.set]; try rfl) (fun u hu hF => ?_) (fun v60 => ?_)
      · have h27_ : v36 = (.string (shpS A_s_.nodes k)) := hF.1
        have h50_ : v59 = (.string ((((wordS el1.kind (1 : Int).toNat) ++ (wordS el1.a (1 : Int).toNat)) ++ (wordS el1.b (1 : Int).toNat)) ++ (fltS el1.nums el1.nums.length))) := hF.2.1
        clear hF
        refine doesG_un rfl ?_
        obtain rfl := h27_
        obtain rfl := h50_
        refine (does_sadd (p := (shpS A_s_.nodes k)) (q := ((((wordS el1.kind (1 : Int).toNat) ++ (wordS el1.a (1 : Int).toNat)) ++ (wordS el1.b (1 : Int).toNat)) ++ (fltS el1.nums el1.nums.length))) (ev rfl) (ev rfl) (by first | omega | (have hn4 := hnu _ (List.mem_of_getElem? hel1); simp only [ByteArray.size_append, wordT1, wordS_size, fltS_size]; omega))).mono ?_; rintro _ _ ⟨rfl, rfl⟩
        exact ⟨rfl, Ext.refl _⟩
      refine RW_fin ?_; intro w61 E62 hP63
      obtain ⟨⟨⟨⟨⟨⟨⟨⟨⟨⟨⟨⟨⟨⟨⟨⟨⟨⟨⟨⟨⟨⟨⟨⟨⟨-, -⟩, -⟩, -⟩, -⟩, -⟩, -⟩, -⟩, -⟩, -⟩, -⟩, -⟩, -⟩, -⟩, -⟩, -⟩, -⟩, -⟩, -⟩, -⟩, -⟩, -⟩, -⟩, -⟩, -⟩, q64⟩ := hP63
      have X65 := Ext.gr X35 E62
      have q64 : v60 = (.string ((shpS A_s_.nodes k) ++ ((((wordS el1.kind (1 : Int).toNat) ++ (wordS el1.a (1 : Int).toNat)) ++ (wordS el1.b (1 : Int).toNat)) ++ (fltS el1.nums el1.nums.length)))) := q64
      obtain rfl := q64
      show wpList _ _ _ _ (fr [_, _, _, _, _, _, _, _, _, _, _, _, _, _, _, _, _, _, _, _, _, _, _, _, _, _, _, _, _, _, _, _, _, _, _, _, _, _, _, _, _, _, _, _, _, _, _, _, _, _, _, _, _]) _
      refine q_is rfl rfl (does_assign (u := (.string ((shpS A_s_.nodes k) ++ ((((wordS el1.kind (1 : Int).toNat) ++ (wordS el1.a (1 : Int).toNat)) ++ (wordS el1.b (1 : Int).toNat)) ++ (fltS el1.nums el1.nums.length))))) (ev rfl)) (by dsimp only [List.set]; try rfl) ?_
      refine wpList_nil (hK21 _ _ ?_)
      refine wp_region_lit ?_
      refine q_is rfl rfl (does_move (u := (Iv (k : Int))) (ev rfl)) (by dsimp only [List.set]; try rfl) ?_
      refine q_is rfl rfl (does_iarith (p := (k : Int)) (q := 1) (r := (k : Int) + 1) (ev rfl) (ev rfl) (.inl ⟨rfl, (in_i64 (by omega) (by omega)).symm⟩)) (by dsimp only [List.set]; try rfl) ?_
      refine q_is rfl rfl (does_assign (u := (Iv ((k : Int) + 1))) (ev rfl)) (by dsimp only [List.set]; try rfl) ?_
      refine wpList_nil ?_
      refine ⟨k + 1, ⟨fun t => (([(Pt s__b s__o), Ud, (.string (⟨#[]⟩)), (.string ((shpS A_s_.nodes k) ++ ((((wordS el1.kind (1 : Int).toNat) ++ (wordS el1.a (1 : Int).toNat)) ++ (wordS el1.b (1 : Int).toNat)) ++ (fltS el1.nums el1.nums.length)))), (Iv ((k : Int) + 1)), (Pt b23 o24), (Pt s__b s__o), (Pt s__b s__o), (Pt s__b s__o), (.slice p3 A_s_.nodes.length q4), (Iv (A_s_.nodes.length : Int)), (.string (wordS (A_s_.nodes.length : Int) (1 : Int).toNat)), (Iv (k : Int)), (Pt s__b s__o), (Pt s__b s__o), (Pt s__b s__o), (.slice p3 A_s_.nodes.length q4), (Iv (A_s_.nodes.length : Int)), (Bo (icmp .lss (k : Int) (A_s_.nodes.length : Int))), (Iv (k : Int)), (Iv ((k : Int) + 1)), (Pt s__b s__o), (Pt s__b s__o), (Pt s__b s__o), (.slice p3 A_s_.nodes.length q4), (Iv (k : Int)), (Pt b23 o24), v36, v37, v38, v39, v40, v41, v42, v43, v44, v45, v46, v47, v48, v49, v50, v51, v52, v53, v54, v55, v56, v57, v58, v59, (.string ((shpS A_s_.nodes k) ++ ((((wordS el1.kind (1 : Int).toNat) ++ (wordS el1.a (1 : Int).toNat)) ++ (wordS el1.b (1 : Int).toNat)) ++ (fltS el1.nums el1.nums.length)))), Ud] : List Value)[t]?).getD undef, ?_, (Ext.gr (Ext.gr E15 E33) E62), ?_⟩, ?_⟩
      · first | rfl | (rw [← shpS_succ hel1]; simp only [wordT1, Int.natCast_add, Int.natCast_one] <;> rfl)
      · omega
      · omega
    have c20' := c20
    (try simp only [icmp, Bool.and_eq_true, Bool.or_eq_true, Bool.and_eq_false_iff, Bool.or_eq_false_iff, Bool.not_eq_true', Bool.not_eq_false', decide_eq_true_eq, decide_eq_false_iff_not, beq_iff_eq, bne_iff_ne, beq_eq_false_iff_ne, bne_eq_false_iff_eq] at c20')
    refine wp_exit ?_
    refine hK11 _ _ ?_
    refine wp_seq_k fun K66 hK66 => ?_
    refine wp_region_lit ?_
    refine q_is rfl rfl (does_move (u := (.string (shpS A_s_.nodes k))) (ev rfl)) (by dsimp only [List.set]; try rfl) ?_
    refine q_is rfl rfl (does_assign (u := (.string (shpS A_s_.nodes k))) (ev rfl)) (by dsimp only [List.set]; try rfl) ?_
    refine wpList_nil (hK66 _ _ ?_)
    refine wp_ret ?_
    refine ret_val (v := (.string (shpS A_s_.nodes k))) (res_T rfl (slot rfl)) X17 ?_
    have x67 : (shpS A_s_.nodes A_s_.nodes.length) = (shpS A_s_.nodes k) := by (rw [show A_s_.nodes.length = k by omega])
    exact (by first | with_reducible rfl | rw [x67] | rfl)

/- spec.ShapeBytes -/
theorem c_spec_ShapeBytes (s_ : List Value) (A_s_ : ShapeT) (w : World) (hv_s_ : RShapeT w A_s_ s_) : Gives Try.prog 7 #[(.agg s_.toArray)] w (fun v w' => v = (.tuple #[(.string (shpB A_s_)), (Bo (isShape A_s_))])) := by
  obtain ⟨y1, rfl, h2⟩ := hv_s_
  have hs5 := h2; have hs5l := Sl.len h2; obtain ⟨p3, q4, rfl⟩ := Sl.shape h2
  refine enter [(.agg #[(.slice p3 A_s_.nodes.length q4)]), Ud, Ud, Ud, Ud, Ud, Ud] Try.func7 rfl Try.ntmps7 rfl ?_
  refine wp_seq_k fun K6 hK6 => ?_
  refine wp_region_lit ?_
  refine seqd rfl rfl (does_box (u := (.agg #[(.slice p3 A_s_.nodes.length q4)])) (ev rfl)) ?_; rintro _ w11 ⟨b7, rfl, hb8, hB9, E10⟩
  have g12 : w.heap.size ≤ b7 := Nat.le_trans (Below.size (Ext.refl w)) hb8
  change Blk _ _ [(.slice p3 A_s_.nodes.length q4)] at hB9
  have X13 := Ext.gr (Ext.refl w) E10
  show wpList _ _ _ _ (fr [(.agg #[(.slice p3 A_s_.nodes.length q4)]), (Pt b7 0), Ud, Ud, Ud, Ud, Ud]) _
  refine q_is (l' := [(.agg #[(.slice p3 A_s_.nodes.length q4)]), (Pt b7 0), (.string (⟨#[]⟩)), Ud, Ud, Ud, Ud]) rfl rfl (does_assign (u := (.string (⟨#[]⟩))) (ev rfl)) rfl ?_
  refine q_is (l' := [(.agg #[(.slice p3 A_s_.nodes.length q4)]), (Pt b7 0), (.string (⟨#[]⟩)), (Bo false), Ud, Ud, Ud]) rfl rfl (does_assign (u := (Bo false)) (ev rfl)) rfl ?_
  refine wpList_nil (hK6 _ _ ?_)
  refine wp_seq_k fun K14 hK14 => ?_
  refine wp_seq_k fun K15 hK15 => ?_
  refine wp_region_lit ?_
  refine seqd rfl rfl (does_call (args := #[(Pt b7 0)]) cal23 (evs rfl) (c_spec_l02Is b7 0 [(.slice p3 A_s_.nodes.length q4)] A_s_ _ (Blk.cells hB9) ⟨(.slice p3 A_s_.nodes.length q4), rfl, (Sl.ext hs5 RNodeT.mono X13)⟩)) ?_; rintro _ w17 ⟨E16, rfl⟩
  have X18 := Ext.gr X13 E16
  show wpList _ _ _ _ (fr [(.agg #[(.slice p3 A_s_.nodes.length q4)]), (Pt b7 0), (.string (⟨#[]⟩)), (Bo false), (Bo (isShape A_s_)), Ud, Ud]) _
  refine q_is (l' := [(.agg #[(.slice p3 A_s_.nodes.length q4)]), (Pt b7 0), (.string (⟨#[]⟩)), (Bo false), (Bo (isShape A_s_)), (Bo (!(isShape A_s_))), Ud]) rfl rfl (does_not (ev rfl)) rfl ?_
  refine wpList_nil (hK15 _ _ ?_)
  refine wp_cond_split (t := !(isShape A_s_)) (ev rfl) (fun c19 => ?_) (fun c19 => ?_)
  · rw [Bool.not_eq_true'] at c19
    have c19' := c19
    refine wp_seq_k fun K20 hK20 => ?_
    refine wp_region_lit ?_
    refine q_is (l' := [(.agg #[(.slice p3 A_s_.nodes.length q4)]), (Pt b7 0), (.string (⟨#[]⟩)), (Bo false), (Bo (isShape A_s_)), (Bo (!(isShape A_s_))), Ud]) rfl rfl (does_assign (u := (.string (⟨#[]⟩))) (ev rfl)) rfl ?_
    refine q_is (l' := [(.agg #[(.slice p3 A_s_.nodes.length q4)]), (Pt b7 0), (.string (⟨#[]⟩)), (Bo false), (Bo (isShape A_s_)), (Bo (!(isShape A_s_))), Ud]) rfl rfl (does_assign (u := (Bo false)) (ev rfl)) rfl ?_
    refine wpList_nil (hK20 _ _ ?_)
    refine wp_ret ?_
    dsimp only [Exit.then, Exit.inBlock]
    refine ret_val (v := (.tuple #[(.string (⟨#[]⟩)), (Bo false)])) (res_TT rfl (slot rfl) (slot rfl)) X18 ?_
    have x21 : (shpB A_s_) = (⟨#[]⟩) := by first | assumption | (rw [shpB_f (by assumption)] <;> rfl) | (rw [shpB_t (by assumption)] <;> rfl)
    have x22 : (isShape A_s_) = false := by first | assumption | (rw [shpB_f (by assumption)] <;> rfl) | (rw [shpB_t (by assumption)] <;> rfl)
    exact (by first | with_reducible rfl | rw [x21, x22] | rw [x22, x21] | rfl)
  rw [Bool.not_eq_false'] at c19
  have c19' := c19
  refine wp_skip (hK14 _ _ ?_)
  refine wp_seq_k fun K23 hK23 => ?_
  refine wp_region_lit ?_
  refine seqd rfl rfl (does_call (args := #[(Pt b7 0)]) cal24 (evs rfl) (c_spec_l10Shape b7 0 [(.slice p3 A_s_.nodes.length q4)] A_s_ _ (Blk.cells (hB9.ext E16)) ⟨(.slice p3 A_s_.nodes.length q4), rfl, (Sl.ext hs5 RNodeT.mono X18)⟩ (by assumption))) ?_; rintro _ w25 ⟨E24, rfl⟩
  have X26 := Ext.gr X18 E24
  show wpList _ _ _ _ (fr [(.agg #[(.slice p3 A_s_.nodes.length q4)]), (Pt b7 0), (.string (⟨#[]⟩)), (Bo false), (Bo (isShape A_s_)), (Bo (!(isShape A_s_))), (.string (shpS A_s_.nodes A_s_.nodes.length))]) _
  refine q_is (l' := [(.agg #[(.slice p3 A_s_.nodes.length q4)]), (Pt b7 0), (.string (shpS A_s_.nodes A_s_.nodes.length)), (Bo false), (Bo (isShape A_s_)), (Bo (!(isShape A_s_))), (.string (shpS A_s_.nodes A_s_.nodes.length))]) rfl rfl (does_assign (u := (.string (shpS A_s_.nodes A_s_.nodes.length))) (ev rfl)) rfl ?_
  refine q_is (l' := [(.agg #[(.slice p3 A_s_.nodes.length q4)]), (Pt b7 0), (.string (shpS A_s_.nodes A_s_.nodes.length)), (Bo true), (Bo (isShape A_s_)), (Bo (!(isShape A_s_))), (.string (shpS A_s_.nodes A_s_.nodes.length))]) rfl rfl (does_assign (u := (Bo true)) (ev rfl)) rfl ?_
  refine wpList_nil (hK23 _ _ ?_)
  refine wp_ret ?_
  refine ret_val (v := (.tuple #[(.string (shpS A_s_.nodes A_s_.nodes.length)), (Bo true)])) (res_TT rfl (slot rfl) (slot rfl)) X26 ?_
  have x27 : (shpB A_s_) = (shpS A_s_.nodes A_s_.nodes.length) := by first | assumption | (rw [shpB_f (by assumption)] <;> rfl) | (rw [shpB_t (by assumption)] <;> rfl)
  have x28 : (isShape A_s_) = true := by first | assumption | (rw [shpB_f (by assumption)] <;> rfl) | (rw [shpB_t (by assumption)] <;> rfl)
  exact (by first | with_reducible rfl | rw [x27, x28] | rw [x28, x27] | rfl)

end Go.Proofs.Ytiagimgdjngnfaa
