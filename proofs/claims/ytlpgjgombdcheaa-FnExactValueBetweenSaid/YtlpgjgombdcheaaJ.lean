/- contracts of functions, each walked once -/
import Derived.Test.YtlpgjgombdcheaaC
import Derived.Test.YtlpgjgombdcheaaBtw
namespace Go.Proofs.Ytlpgjgombdcheaa
open Go Go.RowKit
set_option maxRecDepth 100000
set_option maxHeartbeats 3200000
set_option linter.unusedVariables false
set_option linter.unusedSimpArgs false

/- laws.szFloat32S -/
theorem c_laws_szFloat32S (a : Value) (L_a : List Nat) (left : Int) (w : World) (hv_a : Sl RF 1 w a L_a) (hle : left ≤ 1048576) (hge : 0 ≤ left) : Gives Try.prog 15 #[a, (Iv left)] w (fun v w' => ∃ i_1 : Int, v = (Iv i_1) ∧ (i_1 < 0 ∨ ((L_a.length : Int) ≤ left ∧ i_1 = left - L_a.length ∧ 0 ≤ i_1))) := by
  have hlen_a := Sl.len hv_a; obtain ⟨p_a, q_a, rfl⟩ := Sl.shape hv_a
  refine enter [(.slice p_a L_a.length q_a), (Iv left), Ud, Ud, Ud, Ud, Ud, Ud, Ud, Ud, Ud, Ud] Try.func15 rfl Try.ntmps15 rfl ?_
  refine wp_seq_k fun K1 hK1 => ?_
  refine wp_region_lit ?_
  refine q_is (l' := [(.slice p_a L_a.length q_a), (Iv left), Ud, Ud, (Iv 0), Ud, Ud, Ud, Ud, Ud, Ud, Ud]) rfl rfl (does_assign (u := (Iv 0)) (ev rfl)) rfl ?_
  refine wpList_nil (hK1 _ _ ?_)
  refine wp_seq_k fun K2 hK2 => ?_
  refine wp_region_lit ?_
  refine q_is (l' := [(.slice p_a L_a.length q_a), (Iv left), Ud, Ud, (Iv 0), (Iv left), Ud, Ud, Ud, Ud, Ud, Ud]) rfl rfl (does_move (u := (Iv left)) (ev rfl)) rfl ?_
  refine q_is (l' := [(.slice p_a L_a.length q_a), (Iv left), Ud, Ud, (Iv 0), (Iv left), (.slice p_a L_a.length q_a), Ud, Ud, Ud, Ud, Ud]) rfl rfl (does_move (u := (.slice p_a L_a.length q_a)) (ev rfl)) rfl ?_
  refine q_is (l' := [(.slice p_a L_a.length q_a), (Iv left), Ud, Ud, (Iv 0), (Iv left), (.slice p_a L_a.length q_a), (Iv (L_a.length : Int)), Ud, Ud, Ud, Ud]) rfl rfl (does_len_slice Try.underlying25 (ev rfl)) rfl ?_
  refine q_is (l' := [(.slice p_a L_a.length q_a), (Iv left), Ud, Ud, (Iv 0), (Iv left), (.slice p_a L_a.length q_a), (Iv (L_a.length : Int)), (Iv (left - (L_a.length : Int))), Ud, Ud, Ud]) rfl rfl (does_iarith (p := left) (q := (L_a.length : Int)) (r := left - (L_a.length : Int)) (ev rfl) (ev rfl) (.inr (.inl ⟨rfl, (in_i64 (by omega) (by omega)).symm⟩))) rfl ?_
  refine q_is (l' := [(.slice p_a L_a.length q_a), (Iv (left - (L_a.length : Int))), Ud, Ud, (Iv 0), (Iv left), (.slice p_a L_a.length q_a), (Iv (L_a.length : Int)), (Iv (left - (L_a.length : Int))), Ud, Ud, Ud]) rfl rfl (does_assign (u := (Iv (left - (L_a.length : Int)))) (ev rfl)) rfl ?_
  refine wpList_nil (hK2 _ _ ?_)
  refine wp_seq_k fun K3 hK3 => ?_
  refine wp_seq_k fun K4 hK4 => ?_
  refine wp_region_lit ?_
  refine q_is (l' := [(.slice p_a L_a.length q_a), (Iv (left - (L_a.length : Int))), Ud, Ud, (Iv 0), (Iv left), (.slice p_a L_a.length q_a), (Iv (L_a.length : Int)), (Iv (left - (L_a.length : Int))), (Iv (left - (L_a.length : Int))), Ud, Ud]) rfl rfl (does_move (u := (Iv (left - (L_a.length : Int)))) (ev rfl)) rfl ?_
  refine q_is (l' := [(.slice p_a L_a.length q_a), (Iv (left - (L_a.length : Int))), Ud, Ud, (Iv 0), (Iv left), (.slice p_a L_a.length q_a), (Iv (L_a.length : Int)), (Iv (left - (L_a.length : Int))), (Iv (left - (L_a.length : Int))), (Bo (icmp .lss (left - (L_a.length : Int)) 0)), Ud]) rfl rfl (does_icmp (p := left - (L_a.length : Int)) (q := 0) (.inr (.inr (.inl rfl))) (ev rfl) (ev rfl)) rfl ?_
  refine wpList_nil (hK4 _ _ ?_)
  refine wp_cond_split (t := icmp .lss (left - (L_a.length : Int)) 0) (ev rfl) (fun c5 => ?_) (fun c5 => ?_)
  · have c5' := c5
    (try simp only [icmp, Bool.and_eq_true, Bool.or_eq_true, Bool.and_eq_false_iff, Bool.or_eq_false_iff, Bool.not_eq_true', Bool.not_eq_false', decide_eq_true_eq, decide_eq_false_iff_not, beq_iff_eq, bne_iff_ne, beq_eq_false_iff_ne, bne_eq_false_iff_eq] at c5')
    refine wp_seq_k fun K6 hK6 => ?_
    refine wp_region_lit ?_
    refine q_is (l' := [(.slice p_a L_a.length q_a), (Iv (left - (L_a.length : Int))), Ud, Ud, (Iv (-1)), (Iv left), (.slice p_a L_a.length q_a), (Iv (L_a.length : Int)), (Iv (left - (L_a.length : Int))), (Iv (left - (L_a.length : Int))), (Bo (icmp .lss (left - (L_a.length : Int)) 0)), Ud]) rfl rfl (does_assign (u := (Iv (-1))) (ev rfl)) rfl ?_
    refine wpList_nil (hK6 _ _ ?_)
    refine wp_ret ?_
    dsimp only [Exit.then, Exit.inBlock]
    refine ret_val (v := (Iv (-1))) (res_T rfl (slot rfl)) (Ext.refl w) ?_
    have x7 : (-1) < 0 ∨ ((L_a.length : Int) ≤ left ∧ (-1) = left - L_a.length ∧ 0 ≤ (-1)) := by omega
    exact ⟨(-1), rfl, x7⟩
  have c5' := c5
  (try simp only [icmp, Bool.and_eq_true, Bool.or_eq_true, Bool.and_eq_false_iff, Bool.or_eq_false_iff, Bool.not_eq_true', Bool.not_eq_false', decide_eq_true_eq, decide_eq_false_iff_not, beq_iff_eq, bne_iff_ne, beq_eq_false_iff_ne, bne_eq_false_iff_eq] at c5')
  refine wp_skip (hK3 _ _ ?_)
  refine wp_seq_k fun K8 hK8 => ?_
  refine wp_region_lit ?_
  refine q_is (l' := [(.slice p_a L_a.length q_a), (Iv (left - (L_a.length : Int))), Ud, Ud, (Iv 0), (Iv left), (.slice p_a L_a.length q_a), (Iv (L_a.length : Int)), (Iv (left - (L_a.length : Int))), (Iv (left - (L_a.length : Int))), (Bo (icmp .lss (left - (L_a.length : Int)) 0)), (Iv (left - (L_a.length : Int)))]) rfl rfl (does_move (u := (Iv (left - (L_a.length : Int)))) (ev rfl)) rfl ?_
  refine q_is (l' := [(.slice p_a L_a.length q_a), (Iv (left - (L_a.length : Int))), Ud, Ud, (Iv (left - (L_a.length : Int))), (Iv left), (.slice p_a L_a.length q_a), (Iv (L_a.length : Int)), (Iv (left - (L_a.length : Int))), (Iv (left - (L_a.length : Int))), (Bo (icmp .lss (left - (L_a.length : Int)) 0)), (Iv (left - (L_a.length : Int)))]) rfl rfl (does_assign (u := (Iv (left - (L_a.length : Int)))) (ev rfl)) rfl ?_
  refine wpList_nil (hK8 _ _ ?_)
  refine wp_ret ?_
  refine ret_val (v := (Iv (left - (L_a.length : Int)))) (res_T rfl (slot rfl)) (Ext.refl w) ?_
  have x9 : (left - (L_a.length : Int)) < 0 ∨ ((L_a.length : Int) ≤ left ∧ (left - (L_a.length : Int)) = left - L_a.length ∧ 0 ≤ (left - (L_a.length : Int))) := by omega
  exact ⟨(left - (L_a.length : Int)), rfl, x9⟩

/- laws.szGrid -/
theorem c_laws_szGrid (a : List Value) (A_a : GridT) (left : Int) (w : World) (hv_a : RGridT w A_a a) (hle : left ≤ 1048576) (hge : 0 ≤ left) : Gives Try.prog 5 #[(.agg a.toArray), (Iv left)] w (fun v w' => ∃ i_1 : Int, v = (Iv i_1) ∧ (i_1 < 0 ∨ ((A_a.vals.length : Int) ≤ left ∧ i_1 = left - A_a.vals.length ∧ 0 ≤ i_1))) := by
  obtain ⟨r1, r3, r5, r7, y9, rfl, h2, h4, h6, h8, h10⟩ := hv_a
  have hs13 := h10; have hs13l := Sl.len h10; obtain ⟨p11, q12, rfl⟩ := Sl.shape h10
  refine enter [(.agg #[(Fl r1), (Fl r3), (Fl r5), (Fl r7), (Iv A_a.x), (Iv A_a.y), (Iv A_a.z), (.slice p11 A_a.vals.length q12)]), (Iv left), Ud, Ud, Ud, Ud, Ud, Ud, Ud, Ud, Ud, Ud] Try.func5 rfl Try.ntmps5 rfl ?_
  refine wp_seq_k fun K14 hK14 => ?_
  refine wp_region_lit ?_
  refine seqd rfl rfl (does_box (u := (.agg #[(Fl r1), (Fl r3), (Fl r5), (Fl r7), (Iv A_a.x), (Iv A_a.y), (Iv A_a.z), (.slice p11 A_a.vals.length q12)])) (ev rfl)) ?_; rintro _ w19 ⟨b15, rfl, hb16, hB17, E18⟩
  have g20 : w.heap.size ≤ b15 := Nat.le_trans (Below.size (Ext.refl w)) hb16
  change Blk _ _ [(Fl r1), (Fl r3), (Fl r5), (Fl r7), (Iv A_a.x), (Iv A_a.y), (Iv A_a.z), (.slice p11 A_a.vals.length q12)] at hB17
  have X21 := Ext.gr (Ext.refl w) E18
  show wpList _ _ _ _ (fr [(.agg #[(Fl r1), (Fl r3), (Fl r5), (Fl r7), (Iv A_a.x), (Iv A_a.y), (Iv A_a.z), (.slice p11 A_a.vals.length q12)]), (Iv left), (Pt b15 0), Ud, Ud, Ud, Ud, Ud, Ud, Ud, Ud, Ud]) _
  refine q_is (l' := [(.agg #[(Fl r1), (Fl r3), (Fl r5), (Fl r7), (Iv A_a.x), (Iv A_a.y), (Iv A_a.z), (.slice p11 A_a.vals.length q12)]), (Iv left), (Pt b15 0), Ud, (Iv 0), Ud, Ud, Ud, Ud, Ud, Ud, Ud]) rfl rfl (does_assign (u := (Iv 0)) (ev rfl)) rfl ?_
  refine wpList_nil (hK14 _ _ ?_)
  refine wp_seq_k fun K22 hK22 => ?_
  refine wp_region_lit ?_
  refine q_is (l' := [(.agg #[(Fl r1), (Fl r3), (Fl r5), (Fl r7), (Iv A_a.x), (Iv A_a.y), (Iv A_a.z), (.slice p11 A_a.vals.length q12)]), (Iv left), (Pt b15 0), Ud, (Iv 0), (Pt b15 7), Ud, Ud, Ud, Ud, Ud, Ud]) rfl rfl (does_fieldAddr (ev rfl) fa27_5) rfl ?_
  refine q_is (l' := [(.agg #[(Fl r1), (Fl r3), (Fl r5), (Fl r7), (Iv A_a.x), (Iv A_a.y), (Iv A_a.z), (.slice p11 A_a.vals.length q12)]), (Iv left), (Pt b15 0), Ud, (Iv 0), (Pt b15 7), (.slice p11 A_a.vals.length q12), Ud, Ud, Ud, Ud, Ud]) rfl rfl (does_load (u := (.slice p11 A_a.vals.length q12)) (ev rfl) Try.isAgg25 (Cells.at (Blk.cells hB17) 7 rfl)) rfl ?_
  refine q_is (l' := [(.agg #[(Fl r1), (Fl r3), (Fl r5), (Fl r7), (Iv A_a.x), (Iv A_a.y), (Iv A_a.z), (.slice p11 A_a.vals.length q12)]), (Iv left), (Pt b15 0), Ud, (Iv 0), (Pt b15 7), (.slice p11 A_a.vals.length q12), (Iv left), Ud, Ud, Ud, Ud]) rfl rfl (does_move (u := (Iv left)) (ev rfl)) rfl ?_
  refine seqd rfl rfl (does_call (args := #[(.slice p11 A_a.vals.length q12), (Iv left)]) cal15 (evs rfl) (c_laws_szFloat32S (.slice p11 A_a.vals.length q12) A_a.vals left _ (Sl.ext hs13 RF.mono X21) (by omega) (by omega))) ?_; rintro _ w24 ⟨E23, ⟨i25, rfl, h26⟩⟩
  have X27 := Ext.gr X21 E23
  show wpList _ _ _ _ (fr [(.agg #[(Fl r1), (Fl r3), (Fl r5), (Fl r7), (Iv A_a.x), (Iv A_a.y), (Iv A_a.z), (.slice p11 A_a.vals.length q12)]), (Iv left), (Pt b15 0), Ud, (Iv 0), (Pt b15 7), (.slice p11 A_a.vals.length q12), (Iv left), (Iv i25), Ud, Ud, Ud]) _
  refine q_is (l' := [(.agg #[(Fl r1), (Fl r3), (Fl r5), (Fl r7), (Iv A_a.x), (Iv A_a.y), (Iv A_a.z), (.slice p11 A_a.vals.length q12)]), (Iv i25), (Pt b15 0), Ud, (Iv 0), (Pt b15 7), (.slice p11 A_a.vals.length q12), (Iv left), (Iv i25), Ud, Ud, Ud]) rfl rfl (does_assign (u := (Iv i25)) (ev rfl)) rfl ?_
  refine wpList_nil (hK22 _ _ ?_)
  refine wp_seq_k fun K28 hK28 => ?_
  refine wp_seq_k fun K29 hK29 => ?_
  refine wp_region_lit ?_
  refine q_is (l' := [(.agg #[(Fl r1), (Fl r3), (Fl r5), (Fl r7), (Iv A_a.x), (Iv A_a.y), (Iv A_a.z), (.slice p11 A_a.vals.length q12)]), (Iv i25), (Pt b15 0), Ud, (Iv 0), (Pt b15 7), (.slice p11 A_a.vals.length q12), (Iv left), (Iv i25), (Iv i25), Ud, Ud]) rfl rfl (does_move (u := (Iv i25)) (ev rfl)) rfl ?_
  refine q_is (l' := [(.agg #[(Fl r1), (Fl r3), (Fl r5), (Fl r7), (Iv A_a.x), (Iv A_a.y), (Iv A_a.z), (.slice p11 A_a.vals.length q12)]), (Iv i25), (Pt b15 0), Ud, (Iv 0), (Pt b15 7), (.slice p11 A_a.vals.length q12), (Iv left), (Iv i25), (Iv i25), (Bo (icmp .lss i25 0)), Ud]) rfl rfl (does_icmp (p := i25) (q := 0) (.inr (.inr (.inl rfl))) (ev rfl) (ev rfl)) rfl ?_
  refine wpList_nil (hK29 _ _ ?_)
  refine wp_cond_split (t := icmp .lss i25 0) (ev rfl) (fun c30 => ?_) (fun c30 => ?_)
  · have c30' := c30
    (try simp only [icmp, Bool.and_eq_true, Bool.or_eq_true, Bool.and_eq_false_iff, Bool.or_eq_false_iff, Bool.not_eq_true', Bool.not_eq_false', decide_eq_true_eq, decide_eq_false_iff_not, beq_iff_eq, bne_iff_ne, beq_eq_false_iff_ne, bne_eq_false_iff_eq] at c30')
    refine wp_seq_k fun K31 hK31 => ?_
    refine wp_region_lit ?_
    refine q_is (l' := [(.agg #[(Fl r1), (Fl r3), (Fl r5), (Fl r7), (Iv A_a.x), (Iv A_a.y), (Iv A_a.z), (.slice p11 A_a.vals.length q12)]), (Iv i25), (Pt b15 0), Ud, (Iv (-1)), (Pt b15 7), (.slice p11 A_a.vals.length q12), (Iv left), (Iv i25), (Iv i25), (Bo (icmp .lss i25 0)), Ud]) rfl rfl (does_assign (u := (Iv (-1))) (ev rfl)) rfl ?_
    refine wpList_nil (hK31 _ _ ?_)
    refine wp_ret ?_
    dsimp only [Exit.then, Exit.inBlock]
    refine ret_val (v := (Iv (-1))) (res_T rfl (slot rfl)) X27 ?_
    try simp only [h2, h4, h6, h8] at c30
    have x32 : (-1) < 0 ∨ ((A_a.vals.length : Int) ≤ left ∧ (-1) = left - A_a.vals.length ∧ 0 ≤ (-1)) := by omega
    exact ⟨(-1), rfl, x32⟩
  have c30' := c30
  (try simp only [icmp, Bool.and_eq_true, Bool.or_eq_true, Bool.and_eq_false_iff, Bool.or_eq_false_iff, Bool.not_eq_true', Bool.not_eq_false', decide_eq_true_eq, decide_eq_false_iff_not, beq_iff_eq, bne_iff_ne, beq_eq_false_iff_ne, bne_eq_false_iff_eq] at c30')
  refine wp_skip (hK28 _ _ ?_)
  refine wp_seq_k fun K33 hK33 => ?_
  refine wp_region_lit ?_
  refine q_is (l' := [(.agg #[(Fl r1), (Fl r3), (Fl r5), (Fl r7), (Iv A_a.x), (Iv A_a.y), (Iv A_a.z), (.slice p11 A_a.vals.length q12)]), (Iv i25), (Pt b15 0), Ud, (Iv 0), (Pt b15 7), (.slice p11 A_a.vals.length q12), (Iv left), (Iv i25), (Iv i25), (Bo (icmp .lss i25 0)), (Iv i25)]) rfl rfl (does_move (u := (Iv i25)) (ev rfl)) rfl ?_
  refine q_is (l' := [(.agg #[(Fl r1), (Fl r3), (Fl r5), (Fl r7), (Iv A_a.x), (Iv A_a.y), (Iv A_a.z), (.slice p11 A_a.vals.length q12)]), (Iv i25), (Pt b15 0), Ud, (Iv i25), (Pt b15 7), (.slice p11 A_a.vals.length q12), (Iv left), (Iv i25), (Iv i25), (Bo (icmp .lss i25 0)), (Iv i25)]) rfl rfl (does_assign (u := (Iv i25)) (ev rfl)) rfl ?_
  refine wpList_nil (hK33 _ _ ?_)
  refine wp_ret ?_
  refine ret_val (v := (Iv i25)) (res_T rfl (slot rfl)) X27 ?_
  try simp only [h2, h4, h6, h8] at c30
  have x34 : i25 < 0 ∨ ((A_a.vals.length : Int) ≤ left ∧ i25 = left - A_a.vals.length ∧ 0 ≤ i25) := by omega
  exact ⟨i25, rfl, x34⟩

/- spec.l01Finite -/
theorem c_spec_l01Finite (x : Nat) (w : World) : Gives Try.prog 28 #[(Fl x)] w (fun v w' => v = (Bo (finF (cf .f32 x)))) := by
  refine enter [(Fl x), Ud, Ud, Ud, Ud, Ud, Ud] Try.func28 rfl Try.ntmps28 rfl ?_
  refine wp_seq_k fun K1 hK1 => ?_
  refine wp_region_lit ?_
  refine q_is (l' := [(Fl x), Ud, (Bo false), Ud, Ud, Ud, Ud]) rfl rfl (does_assign (u := (Bo false)) (ev rfl)) rfl ?_
  refine wpList_nil (hK1 _ _ ?_)
  refine wp_seq_k fun K2 hK2 => ?_
  refine wp_region_lit ?_
  refine q_is (l' := [(Fl x), Ud, (Bo false), (Fl x), Ud, Ud, Ud]) rfl rfl (does_move (u := (Fl x)) (ev rfl)) rfl ?_
  refine q_is (l' := [(Fl x), Ud, (Bo false), (Fl x), (Fl x), Ud, Ud]) rfl rfl (does_move (u := (Fl x)) (ev rfl)) rfl ?_
  refine seqd rfl rfl (does_float (.inr (.inl rfl)) (ev rfl) (ev rfl)) ?_; rintro _ w6 ⟨r3, rfl, h4, E5⟩
  have X7 := Ext.gr (Ext.refl w) E5
  show wpList _ _ _ _ (fr [(Fl x), Ud, (Bo false), (Fl x), (Fl x), (Fl r3), Ud]) _
  refine q_is (l' := [(Fl x), Ud, (Bo false), (Fl x), (Fl x), (Fl r3), (Bo (fcmp .eql (ford .f32 (cf .f32 r3) (cf .f32 0))))]) rfl rfl (does_fcmp (.inl rfl) (ev rfl) (ev rfl)) rfl ?_
  refine q_is (l' := [(Fl x), Ud, (Bo (fcmp .eql (ford .f32 (cf .f32 r3) (cf .f32 0)))), (Fl x), (Fl x), (Fl r3), (Bo (fcmp .eql (ford .f32 (cf .f32 r3) (cf .f32 0))))]) rfl rfl (does_assign (u := (Bo (fcmp .eql (ford .f32 (cf .f32 r3) (cf .f32 0))))) (ev rfl)) rfl ?_
  refine wpList_nil (hK2 _ _ ?_)
  refine wp_ret ?_
  refine ret_val (v := (Bo (fcmp .eql (ford .f32 (cf .f32 r3) (cf .f32 0))))) (res_T rfl (slot rfl)) X7 ?_
  have x8 : (finF (cf .f32 x)) = (fcmp .eql (ford .f32 (cf .f32 r3) (cf .f32 0))) := by first | with_reducible rfl | (simp only [finF, h4]; done) | (simp [finF, h4]; done) | rfl
  exact (by first | rfl | rw [x8])

/- spec.l01VFinite -/
theorem c_spec_l01VFinite (v : List Value) (A_v : V3) (w : World) (hv_v : RV3 w A_v v) : Gives Try.prog 17 #[(.agg v.toArray)] w (fun v w' => v = (Bo (finV A_v))) := by
  obtain ⟨r1, r3, r5, rfl, h2, h4, h6⟩ := hv_v
  refine enter [(.agg #[(Fl r1), (Fl r3), (Fl r5)]), Ud, Ud, Ud, Ud, Ud, Ud, Ud, Ud, Ud, Ud, Ud, Ud, Ud, Ud, Ud] Try.func17 rfl Try.ntmps17 rfl ?_
  refine wp_seq_k fun K7 hK7 => ?_
  refine wp_region_lit ?_
  refine seqd rfl rfl (does_box (u := (.agg #[(Fl r1), (Fl r3), (Fl r5)])) (ev rfl)) ?_; rintro _ w12 ⟨b8, rfl, hb9, hB10, E11⟩
  have g13 : w.heap.size ≤ b8 := Nat.le_trans (Below.size (Ext.refl w)) hb9
  change Blk _ _ [(Fl r1), (Fl r3), (Fl r5)] at hB10
  have X14 := Ext.gr (Ext.refl w) E11
  show wpList _ _ _ _ (fr [(.agg #[(Fl r1), (Fl r3), (Fl r5)]), (Pt b8 0), Ud, Ud, Ud, Ud, Ud, Ud, Ud, Ud, Ud, Ud, Ud, Ud, Ud, Ud]) _
  refine q_is (l' := [(.agg #[(Fl r1), (Fl r3), (Fl r5)]), (Pt b8 0), (Bo false), Ud, Ud, Ud, Ud, Ud, Ud, Ud, Ud, Ud, Ud, Ud, Ud, Ud]) rfl rfl (does_assign (u := (Bo false)) (ev rfl)) rfl ?_
  refine wpList_nil (hK7 _ _ ?_)
  refine wp_seq_k fun K15 hK15 => ?_
  obtain ⟨β1, hβ1⟩ : ∃ b : Bool, b = ((finF (cf .f32 r1)) && (finF (cf .f32 r3))) := ⟨_, rfl⟩
  obtain ⟨β2, hβ2⟩ : ∃ b : Bool, b = (β1 && (finF (cf .f32 r5))) := ⟨_, rfl⟩
  refine region_text (
    [Fact.pure [] (fun v => v = (Pt b8 0)),
    Fact.pure [3] (fun v => v = (Fl r1)),
    Fact.pure [4] (fun v => v = (Bo (finF (cf .f32 r1)))),
    Fact.pure [5] (fun v => v = (Bo (finF (cf .f32 r1)))),
    Fact.pure [6] (fun v => (finF (cf .f32 r1)) = true → v = (Pt b8 1)),
    Fact.pure [7, 6] (fun v => (finF (cf .f32 r1)) = true → v = (Fl r3)),
    Fact.pure [8, 6] (fun v => (finF (cf .f32 r1)) = true → v = (Bo (finF (cf .f32 r3)))),
    Fact.pure [6, 9] (fun v => v = (Bo β1)),
    Fact.pure [10] (fun v => v = (Bo β1)),
    Fact.pure [11] (fun v => β1 = true → v = (Pt b8 2)),
    Fact.pure [12, 11] (fun v => β1 = true → v = (Fl r5)),
    Fact.pure [13, 11] (fun v => β1 = true → v = (Bo (finF (cf .f32 r5)))),
    Fact.pure [11, 14] (fun v => v = (Bo β2))]) (by simp [Fact.pure, Fact.mem]) ?_
  refine RW_d (fun v16 => [(.agg #[(Fl r1), (Fl r3), (Fl r5)]), (Pt b8 0), (Bo false), v16, Ud, Ud, Ud, Ud, Ud, Ud, Ud, Ud, Ud, Ud, Ud, Ud]) rfl (fun _ => rfl) (fun u hu hF => ?_) (fun v16 => ?_)
  · clear hF
    refine doesG_un rfl ?_
    refine (does_fieldAddr (ev rfl) fa31_0).mono ?_; rintro _ _ ⟨rfl, rfl⟩
    exact ⟨rfl, Ext.refl _⟩
  refine RW_d (fun v17 => [(.agg #[(Fl r1), (Fl r3), (Fl r5)]), (Pt b8 0), (Bo false), v16, v17, Ud, Ud, Ud, Ud, Ud, Ud, Ud, Ud, Ud, Ud, Ud]) rfl (fun _ => rfl) (fun u hu hF => ?_) (fun v17 => ?_)
  · have h3_ : v16 = (Pt b8 0) := hF.1
    clear hF
    refine doesG_un rfl ?_
    obtain rfl := h3_
    refine (does_load (u := (Fl r1)) (ev rfl) Try.isAgg22 (Cells.at (Blk.cells (hB10.ext hu)) 0 rfl)).mono ?_; rintro _ _ ⟨rfl, rfl⟩
    exact ⟨rfl, Ext.refl _⟩
  refine RW_d (fun v18 => [(.agg #[(Fl r1), (Fl r3), (Fl r5)]), (Pt b8 0), (Bo false), v16, v17, v18, Ud, Ud, Ud, Ud, Ud, Ud, Ud, Ud, Ud, Ud]) rfl (fun _ => rfl) (fun u hu hF => ?_) (fun v18 => ?_)
  · have h4_ : v17 = (Fl r1) := hF.1
    clear hF
    refine doesG_un rfl ?_
    obtain rfl := h4_
    refine (does_call (args := #[(Fl r1)]) cal28 (evs rfl) (c_spec_l01Finite r1 _)).mono ?_; rintro v u' ⟨hx, hv⟩
    exact ⟨hv, hx⟩
  refine RW_d (fun v19 => [(.agg #[(Fl r1), (Fl r3), (Fl r5)]), (Pt b8 0), (Bo false), v16, v17, v18, v19, Ud, Ud, Ud, Ud, Ud, Ud, Ud, Ud, Ud]) rfl (fun _ => rfl) (fun u hu hF => ?_) (fun v19 => ?_)
  · have h5_ : v18 = (Bo (finF (cf .f32 r1))) := hF.1
    clear hF
    refine doesG_un rfl ?_
    obtain rfl := h5_
    refine (does_move (u := (Bo (finF (cf .f32 r1)))) (ev rfl)).mono ?_; rintro _ _ ⟨rfl, rfl⟩
    exact ⟨rfl, Ext.refl _⟩
  refine RW_d (fun v20 => [(.agg #[(Fl r1), (Fl r3), (Fl r5)]), (Pt b8 0), (Bo false), v16, v17, v18, v19, v20, Ud, Ud, Ud, Ud, Ud, Ud, Ud, Ud]) rfl (fun _ => rfl) (fun u hu hF => ?_) (fun v20 => ?_)
  · have h6_ : v19 = (Bo (finF (cf .f32 r1))) := hF.1
    clear hF
    obtain rfl := h6_
    refine doesG_g (b := (finF (cf .f32 r1))) rfl (yld rfl rfl) (fun hg1 => ?_) (fun hc => ⟨fun hg1 => absurd hg1 hc, Ext.refl _⟩)
    refine (does_fieldAddr (ev rfl) fa31_1).mono ?_; rintro _ _ ⟨rfl, rfl⟩
    exact ⟨fun _ => rfl, Ext.refl _⟩
  refine RW_d (fun v21 => [(.agg #[(Fl r1), (Fl r3), (Fl r5)]), (Pt b8 0), (Bo false), v16, v17, v18, v19, v20, v21, Ud, Ud, Ud, Ud, Ud, Ud, Ud]) rfl (fun _ => rfl) (fun u hu hF => ?_) (fun v21 => ?_)
  · have h7_ : (finF (cf .f32 r1)) = true → v20 = (Pt b8 1) := hF.1
    have h6_ : v19 = (Bo (finF (cf .f32 r1))) := hF.2.1
    clear hF
    obtain rfl := h6_
    refine doesG_g (b := (finF (cf .f32 r1))) rfl (yld rfl rfl) (fun hg1 => ?_) (fun hc => ⟨fun hg1 => absurd hg1 hc, Ext.refl _⟩)
    obtain rfl := h7_ hg1
    refine (does_load (u := (Fl r3)) (ev rfl) Try.isAgg22 (Cells.at (Blk.cells (hB10.ext hu)) 1 rfl)).mono ?_; rintro _ _ ⟨rfl, rfl⟩
    exact ⟨fun _ => rfl, Ext.refl _⟩
  refine RW_d (fun v22 => [(.agg #[(Fl r1), (Fl r3), (Fl r5)]), (Pt b8 0), (Bo false), v16, v17, v18, v19, v20, v21, v22, Ud, Ud, Ud, Ud, Ud, Ud]) rfl (fun _ => rfl) (fun u hu hF => ?_) (fun v22 => ?_)
  · have h8_ : (finF (cf .f32 r1)) = true → v21 = (Fl r3) := hF.1
    have h6_ : v19 = (Bo (finF (cf .f32 r1))) := hF.2.1
    clear hF
    obtain rfl := h6_
    refine doesG_g (b := (finF (cf .f32 r1))) rfl (yld rfl rfl) (fun hg1 => ?_) (fun hc => ⟨fun hg1 => absurd hg1 hc, Ext.refl _⟩)
    obtain rfl := h8_ hg1
    refine (does_call (args := #[(Fl r3)]) cal28 (evs rfl) (c_spec_l01Finite r3 _)).mono ?_; rintro v u' ⟨hx, hv⟩
    exact ⟨fun _ => hv, hx⟩
  refine RW_d (fun v23 => [(.agg #[(Fl r1), (Fl r3), (Fl r5)]), (Pt b8 0), (Bo false), v16, v17, v18, v19, v20, v21, v22, v23, Ud, Ud, Ud, Ud, Ud]) rfl (fun _ => rfl) (fun u hu hF => ?_) (fun v23 => ?_)
  · have h6_ : v19 = (Bo (finF (cf .f32 r1))) := hF.1
    have h9_ : (finF (cf .f32 r1)) = true → v22 = (Bo (finF (cf .f32 r3))) := hF.2.1
    clear hF
    refine doesG_un rfl ?_
    skip
    obtain rfl := h6_
    refine (does_pick (b := (finF (cf .f32 r1))) (ev rfl) (ev rfl) (ev rfl)).mono ?_; rintro _ _ ⟨rfl, rfl⟩; refine ⟨?_, Ext.refl _⟩; rw [hβ1]; skip
    cases hbb : (finF (cf .f32 r1)) <;> simp [hbb] at h9_ ⊢
    all_goals (first | rfl | (subst h9_; rfl) | simp_all)
  refine RW_d (fun v24 => [(.agg #[(Fl r1), (Fl r3), (Fl r5)]), (Pt b8 0), (Bo false), v16, v17, v18, v19, v20, v21, v22, v23, v24, Ud, Ud, Ud, Ud]) rfl (fun _ => rfl) (fun u hu hF => ?_) (fun v24 => ?_)
  · have h10_ : v23 = (Bo β1) := hF.1
    clear hF
    refine doesG_un rfl ?_
    obtain rfl := h10_
    refine (does_move (u := (Bo β1)) (ev rfl)).mono ?_; rintro _ _ ⟨rfl, rfl⟩
    exact ⟨rfl, Ext.refl _⟩
  refine RW_d (fun v25 => [(.agg #[(Fl r1), (Fl r3), (Fl r5)]), (Pt b8 0), (Bo false), v16, v17, v18, v19, v20, v21, v22, v23, v24, v25, Ud, Ud, Ud]) rfl (fun _ => rfl) (fun u hu hF => ?_) (fun v25 => ?_)
  · have h11_ : v24 = (Bo β1) := hF.1
    clear hF
    obtain rfl := h11_
    refine doesG_g (b := β1) rfl (yld rfl rfl) (fun hg1 => ?_) (fun hc => ⟨fun hg1 => absurd hg1 hc, Ext.refl _⟩)
    refine (does_fieldAddr (ev rfl) fa31_2).mono ?_; rintro _ _ ⟨rfl, rfl⟩
    exact ⟨fun _ => rfl, Ext.refl _⟩
  refine RW_d (fun v26 => [(.agg #[(Fl r1), (Fl r3), (Fl r5)]), (Pt b8 0), (Bo false), v16, v17, v18, v19, v20, v21, v22, v23, v24, v25, v26, Ud, Ud]) rfl (fun _ => rfl) (fun u hu hF => ?_) (fun v26 => ?_)
  · have h12_ : β1 = true → v25 = (Pt b8 2) := hF.1
    have h11_ : v24 = (Bo β1) := hF.2.1
    clear hF
    obtain rfl := h11_
    refine doesG_g (b := β1) rfl (yld rfl rfl) (fun hg1 => ?_) (fun hc => ⟨fun hg1 => absurd hg1 hc, Ext.refl _⟩)
    obtain rfl := h12_ hg1
    refine (does_load (u := (Fl r5)) (ev rfl) Try.isAgg22 (Cells.at (Blk.cells (hB10.ext hu)) 2 rfl)).mono ?_; rintro _ _ ⟨rfl, rfl⟩
    exact ⟨fun _ => rfl, Ext.refl _⟩
  refine RW_d (fun v27 => [(.agg #[(Fl r1), (Fl r3), (Fl r5)]), (Pt b8 0), (Bo false), v16, v17, v18, v19, v20, v21, v22, v23, v24, v25, v26, v27, Ud]) rfl (fun _ => rfl) (fun u hu hF => ?_) (fun v27 => ?_)
  · have h13_ : β1 = true → v26 = (Fl r5) := hF.1
    have h11_ : v24 = (Bo β1) := hF.2.1
    clear hF
    obtain rfl := h11_
    refine doesG_g (b := β1) rfl (yld rfl rfl) (fun hg1 => ?_) (fun hc => ⟨fun hg1 => absurd hg1 hc, Ext.refl _⟩)
    obtain rfl := h13_ hg1
    refine (does_call (args := #[(Fl r5)]) cal28 (evs rfl) (c_spec_l01Finite r5 _)).mono ?_; rintro v u' ⟨hx, hv⟩
    exact ⟨fun _ => hv, hx⟩
  refine RW_d (fun v28 => [(.agg #[(Fl r1), (Fl r3), (Fl r5)]), (Pt b8 0), (Bo false), v16, v17, v18, v19, v20, v21, v22, v23, v24, v25, v26, v27, v28]) rfl (fun _ => rfl) (fun u hu hF => ?_) (fun v28 => ?_)
  · have h11_ : v24 = (Bo β1) := hF.1
    have h14_ : β1 = true → v27 = (Bo (finF (cf .f32 r5))) := hF.2.1
    clear hF
    refine doesG_un rfl ?_
    skip
    obtain rfl := h11_
    refine (does_pick (b := β1) (ev rfl) (ev rfl) (ev rfl)).mono ?_; rintro _ _ ⟨rfl, rfl⟩; refine ⟨?_, Ext.refl _⟩; rw [hβ2]; skip
    cases hbb : β1 <;> simp [hbb] at h14_ ⊢
    all_goals (first | rfl | (subst h14_; rfl) | simp_all)
  refine RW_fin ?_; intro w29 E30 hP31
  obtain ⟨⟨⟨⟨⟨⟨⟨⟨⟨⟨⟨⟨⟨-, -⟩, -⟩, -⟩, -⟩, -⟩, -⟩, -⟩, -⟩, -⟩, -⟩, -⟩, -⟩, q32⟩ := hP31
  have X33 := Ext.gr X14 E30
  have q32 : v28 = (Bo β2) := q32
  obtain rfl := q32
  show wpList _ _ _ _ (fr [(.agg #[(Fl r1), (Fl r3), (Fl r5)]), (Pt b8 0), (Bo false), v16, v17, v18, v19, v20, v21, v22, v23, v24, v25, v26, v27, (Bo β2)]) _
  refine q_is (l' := [(.agg #[(Fl r1), (Fl r3), (Fl r5)]), (Pt b8 0), (Bo β2), v16, v17, v18, v19, v20, v21, v22, v23, v24, v25, v26, v27, (Bo β2)]) rfl rfl (does_assign (u := (Bo β2)) (ev rfl)) rfl ?_
  refine wpList_nil (hK15 _ _ ?_)
  refine wp_ret ?_
  refine ret_val (v := (Bo β2)) (res_T rfl (slot rfl)) X33 ?_
  have x34 : (finV A_v) = β2 := by first | with_reducible rfl | (simp only [finV, h2, h4, h6, hβ1, hβ2]; done) | (simp [finV, h2, h4, h6, hβ1, hβ2]; done) | rfl
  exact (by first | rfl | rw [x34])

/- spec.l00In -/
theorem c_spec_l00In (n : Int) (low : Int) (high : Int) (w : World) : Gives Try.prog 43 #[(Iv n), (Iv low), (Iv high)] w (fun v w' => v = (Bo (inI n low high))) := by
  refine enter [(Iv n), (Iv low), (Iv high), Ud, Ud, Ud, Ud, Ud, Ud, Ud, Ud, Ud, Ud, Ud, Ud] Try.func43 rfl Try.ntmps43 rfl ?_
  refine wp_seq_k fun K1 hK1 => ?_
  refine wp_region_lit ?_
  refine q_is (l' := [(Iv n), (Iv low), (Iv high), Ud, Ud, Ud, (Bo false), Ud, Ud, Ud, Ud, Ud, Ud, Ud, Ud]) rfl rfl (does_assign (u := (Bo false)) (ev rfl)) rfl ?_
  refine wpList_nil (hK1 _ _ ?_)
  refine wp_seq_k fun K2 hK2 => ?_
  obtain ⟨β1, hβ1⟩ : ∃ b : Bool, b = ((icmp .geq n low) && (icmp .leq n high)) := ⟨_, rfl⟩
  refine region_text (
    [Fact.pure [] (fun v => v = (Iv n)),
    Fact.pure [] (fun v => v = (Iv low)),
    Fact.pure [7, 8] (fun v => v = (Bo (icmp .geq n low))),
    Fact.pure [9] (fun v => v = (Bo (icmp .geq n low))),
    Fact.pure [10] (fun v => (icmp .geq n low) = true → v = (Iv n)),
    Fact.pure [10] (fun v => (icmp .geq n low) = true → v = (Iv high)),
    Fact.pure [11, 12, 10] (fun v => (icmp .geq n low) = true → v = (Bo (icmp .leq n high))),
    Fact.pure [10, 13] (fun v => v = (Bo β1))]) (by simp [Fact.pure, Fact.mem]) ?_
  refine RW_d (fun v3 => [(Iv n), (Iv low), (Iv high), Ud, Ud, Ud, (Bo false), v3, Ud, Ud, Ud, Ud, Ud, Ud, Ud]) rfl (fun _ => rfl) (fun u hu hF => ?_) (fun v3 => ?_)
  · clear hF
    refine doesG_un rfl ?_
    refine (does_move (u := (Iv n)) (ev rfl)).mono ?_; rintro _ _ ⟨rfl, rfl⟩
    exact ⟨rfl, Ext.refl _⟩
  refine RW_d (fun v4 => [(Iv n), (Iv low), (Iv high), Ud, Ud, Ud, (Bo false), v3, v4, Ud, Ud, Ud, Ud, Ud, Ud]) rfl (fun _ => rfl) (fun u hu hF => ?_) (fun v4 => ?_)
  · clear hF
    refine doesG_un rfl ?_
    refine (does_move (u := (Iv low)) (ev rfl)).mono ?_; rintro _ _ ⟨rfl, rfl⟩
    exact ⟨rfl, Ext.refl _⟩
  refine RW_d (fun v5 => [(Iv n), (Iv low), (Iv high), Ud, Ud, Ud, (Bo false), v3, v4, v5, Ud, Ud, Ud, Ud, Ud]) rfl (fun _ => rfl) (fun u hu hF => ?_) (fun v5 => ?_)
  · have h7_ : v3 = (Iv n) := hF.1
    have h8_ : v4 = (Iv low) := hF.2.1
    clear hF
    refine doesG_un rfl ?_
    obtain rfl := h7_
    obtain rfl := h8_
    refine (does_icmp (p := n) (q := low) (.inr (.inr (.inr (.inr (.inr rfl))))) (ev rfl) (ev rfl)).mono ?_; rintro _ _ ⟨rfl, rfl⟩
    exact ⟨rfl, Ext.refl _⟩
  refine RW_d (fun v6 => [(Iv n), (Iv low), (Iv high), Ud, Ud, Ud, (Bo false), v3, v4, v5, v6, Ud, Ud, Ud, Ud]) rfl (fun _ => rfl) (fun u hu hF => ?_) (fun v6 => ?_)
  · have h9_ : v5 = (Bo (icmp .geq n low)) := hF.1
    clear hF
    refine doesG_un rfl ?_
    obtain rfl := h9_
    refine (does_move (u := (Bo (icmp .geq n low))) (ev rfl)).mono ?_; rintro _ _ ⟨rfl, rfl⟩
    exact ⟨rfl, Ext.refl _⟩
  refine RW_d (fun v7 => [(Iv n), (Iv low), (Iv high), Ud, Ud, Ud, (Bo false), v3, v4, v5, v6, v7, Ud, Ud, Ud]) rfl (fun _ => rfl) (fun u hu hF => ?_) (fun v7 => ?_)
  · have h10_ : v6 = (Bo (icmp .geq n low)) := hF.1
    clear hF
    obtain rfl := h10_
    refine doesG_g (b := (icmp .geq n low)) rfl (yld rfl rfl) (fun hg1 => ?_) (fun hc => ⟨fun hg1 => absurd hg1 hc, Ext.refl _⟩)
    refine (does_move (u := (Iv n)) (ev rfl)).mono ?_; rintro _ _ ⟨rfl, rfl⟩
    exact ⟨fun _ => rfl, Ext.refl _⟩
  refine RW_d (fun v8 => [(Iv n), (Iv low), (Iv high), Ud, Ud, Ud, (Bo false), v3, v4, v5, v6, v7, v8, Ud, Ud]) rfl (fun _ => rfl) (fun u hu hF => ?_) (fun v8 => ?_)
  · have h10_ : v6 = (Bo (icmp .geq n low)) := hF.1
    clear hF
    obtain rfl := h10_
    refine doesG_g (b := (icmp .geq n low)) rfl (yld rfl rfl) (fun hg1 => ?_) (fun hc => ⟨fun hg1 => absurd hg1 hc, Ext.refl _⟩)
    refine (does_move (u := (Iv high)) (ev rfl)).mono ?_; rintro _ _ ⟨rfl, rfl⟩
    exact ⟨fun _ => rfl, Ext.refl _⟩
  refine RW_d (fun v9 => [(Iv n), (Iv low), (Iv high), Ud, Ud, Ud, (Bo false), v3, v4, v5, v6, v7, v8, v9, Ud]) rfl (fun _ => rfl) (fun u hu hF => ?_) (fun v9 => ?_)
  · have h11_ : (icmp .geq n low) = true → v7 = (Iv n) := hF.1
    have h12_ : (icmp .geq n low) = true → v8 = (Iv high) := hF.2.1
    have h10_ : v6 = (Bo (icmp .geq n low)) := hF.2.2.1
    clear hF
    obtain rfl := h10_
    refine doesG_g (b := (icmp .geq n low)) rfl (yld rfl rfl) (fun hg1 => ?_) (fun hc => ⟨fun hg1 => absurd hg1 hc, Ext.refl _⟩)
    obtain rfl := h11_ hg1
    obtain rfl := h12_ hg1
    refine (does_icmp (p := n) (q := high) (.inr (.inr (.inr (.inl rfl)))) (ev rfl) (ev rfl)).mono ?_; rintro _ _ ⟨rfl, rfl⟩
    exact ⟨fun _ => rfl, Ext.refl _⟩
  refine RW_d (fun v10 => [(Iv n), (Iv low), (Iv high), Ud, Ud, Ud, (Bo false), v3, v4, v5, v6, v7, v8, v9, v10]) rfl (fun _ => rfl) (fun u hu hF => ?_) (fun v10 => ?_)
  · have h10_ : v6 = (Bo (icmp .geq n low)) := hF.1
    have h13_ : (icmp .geq n low) = true → v9 = (Bo (icmp .leq n high)) := hF.2.1
    clear hF
    refine doesG_un rfl ?_
    skip
    obtain rfl := h10_
    refine (does_pick (b := (icmp .geq n low)) (ev rfl) (ev rfl) (ev rfl)).mono ?_; rintro _ _ ⟨rfl, rfl⟩; refine ⟨?_, Ext.refl _⟩; rw [hβ1]; skip
    cases hbb : (icmp .geq n low) <;> simp [hbb] at h13_ ⊢
    all_goals (first | rfl | (subst h13_; rfl) | simp_all)
  refine RW_fin ?_; intro w11 E12 hP13
  obtain ⟨⟨⟨⟨⟨⟨⟨⟨-, -⟩, -⟩, -⟩, -⟩, -⟩, -⟩, -⟩, q14⟩ := hP13
  have X15 := Ext.gr (Ext.refl w) E12
  have q14 : v10 = (Bo β1) := q14
  obtain rfl := q14
  show wpList _ _ _ _ (fr [(Iv n), (Iv low), (Iv high), Ud, Ud, Ud, (Bo false), v3, v4, v5, v6, v7, v8, v9, (Bo β1)]) _
  refine q_is (l' := [(Iv n), (Iv low), (Iv high), Ud, Ud, Ud, (Bo β1), v3, v4, v5, v6, v7, v8, v9, (Bo β1)]) rfl rfl (does_assign (u := (Bo β1)) (ev rfl)) rfl ?_
  refine wpList_nil (hK2 _ _ ?_)
  refine wp_ret ?_
  refine ret_val (v := (Bo β1)) (res_T rfl (slot rfl)) X15 ?_
  have x16 : (inI n low high) = β1 := by first | with_reducible rfl | (simp only [inI, hβ1]; done) | (simp [inI, hβ1]; done) | rfl
  exact (by first | rfl | rw [x16])

/- spec.l06Counts -/
theorem c_spec_l06Counts (x : Int) (y : Int) (z : Int) (w : World) : Gives Try.prog 29 #[(Iv x), (Iv y), (Iv z)] w (fun v w' => v = (Bo (cntOk x y z))) := by
  refine enter [(Iv x), (Iv y), (Iv z), Ud, Ud, Ud, Ud, Ud, Ud, Ud, Ud, Ud, Ud, Ud, Ud, Ud, Ud, Ud, Ud, Ud, Ud, Ud, Ud, Ud, Ud] Try.func29 rfl Try.ntmps29 rfl ?_
  refine wp_seq_k fun K1 hK1 => ?_
  refine wp_region_lit ?_
  refine q_is rfl rfl (does_assign (u := (Bo false)) (ev rfl)) (by dsimp only [List.set]; try rfl) ?_
  refine wpList_nil (hK1 _ _ ?_)
  refine wp_seq_k fun K2 hK2 => ?_
  obtain ⟨β1, hβ1⟩ : ∃ b : Bool, b = ((inI x 1 16) && (inI y 1 16)) := ⟨_, rfl⟩
  obtain ⟨β2, hβ2⟩ : ∃ b : Bool, b = (icmp .leq (IntKind.i64.wrap ((IntKind.i64.wrap (x * y)) * z)) 1024) := ⟨_, rfl⟩
  obtain ⟨β3, hβ3⟩ : ∃ b : Bool, b = ((β1 && (inI z 1 16)) && β2) := ⟨_, rfl⟩
  refine region_text (
    [Fact.pure [] (fun v => v = (Iv x)),
    Fact.pure [7] (fun v => v = (Bo (inI x 1 16))),
    Fact.pure [8] (fun v => v = (Bo (inI x 1 16))),
    Fact.pure [9] (fun v => (inI x 1 16) = true → v = (Iv y)),
    Fact.pure [10, 9] (fun v => (inI x 1 16) = true → v = (Bo (inI y 1 16))),
    Fact.pure [9, 11] (fun v => v = (Bo β1)),
    Fact.pure [12] (fun v => v = (Bo β1)),
    Fact.pure [13] (fun v => β1 = true → v = (Iv z)),
    Fact.pure [14, 13] (fun v => β1 = true → v = (Bo (inI z 1 16))),
    Fact.pure [13, 15] (fun v => v = (Bo (β1 && (inI z 1 16)))),
    Fact.pure [16] (fun v => v = (Bo (β1 && (inI z 1 16)))),
    Fact.pure [17] (fun v => (β1 && (inI z 1 16)) = true → v = (Iv x)),
    Fact.pure [17] (fun v => (β1 && (inI z 1 16)) = true → v = (Iv y)),
    Fact.pure [18, 19, 17] (fun v => (β1 && (inI z 1 16)) = true → v = (Iv (IntKind.i64.wrap (x * y)))),
    Fact.pure [17] (fun v => (β1 && (inI z 1 16)) = true → v = (Iv z)),
    Fact.pure [20, 21, 17] (fun v => (β1 && (inI z 1 16)) = true → v = (Iv (IntKind.i64.wrap ((IntKind.i64.wrap (x * y)) * z)))),
    Fact.pure [22, 17] (fun v => (β1 && (inI z 1 16)) = true → v = (Bo β2)),
    Fact.pure [17, 23] (fun v => v = (Bo β3))]) (by simp [Fact.pure, Fact.mem]) ?_
  refine RW_d _ rfl (fun v => by dsimp only [List.set]; try rfl) (fun u hu hF => ?_) (fun v3 => ?_)
  · clear hF
    refine doesG_un rfl ?_
    refine (does_move (u := (Iv x)) (ev rfl)).mono ?_; rintro _ _ ⟨rfl, rfl⟩
    exact ⟨rfl, Ext.refl _⟩
  refine RW_d _ rfl (fun v => by dsimp only [List.set]; try rfl) (fun u hu hF => ?_) (fun v4 => ?_)
  · have h7_ : v3 = (Iv x) := hF.1
    clear hF
    refine doesG_un rfl ?_
    obtain rfl := h7_
    refine (does_call (args := #[(Iv x), (Iv 1), (Iv 16)]) cal43 (evs rfl) (c_spec_l00In x 1 16 _)).mono ?_; rintro v u' ⟨hx, hv⟩
    exact ⟨hv, hx⟩
  refine RW_d _ rfl (fun v => by dsimp only [List.set]; try rfl) (fun u hu hF => ?_) (fun v5 => ?_)
  · have h8_ : v4 = (Bo (inI x 1 16)) := hF.1
    clear hF
    refine doesG_un rfl ?_
    obtain rfl := h8_
    refine (does_move (u := (Bo (inI x 1 16))) (ev rfl)).mono ?_; rintro _ _ ⟨rfl, rfl⟩
    exact ⟨rfl, Ext.refl _⟩
  refine RW_d _ rfl (fun v => by dsimp only [List.set]; try rfl) (fun u hu hF => ?_) (fun v6 => ?_)
  · have h9_ : v5 = (Bo (inI x 1 16)) := hF.1
    clear hF
    obtain rfl := h9_
    refine doesG_g (b := (inI x 1 16)) rfl (yld rfl rfl) (fun hg1 => ?_) (fun hc => ⟨fun hg1 => absurd hg1 hc, Ext.refl _⟩)
    refine (does_move (u := (Iv y)) (ev rfl)).mono ?_; rintro _ _ ⟨rfl, rfl⟩
    exact ⟨fun _ => rfl, Ext.refl _⟩
  refine RW_d _ rfl (fun v => by dsimp only [List.set]; try rfl) (fun u hu hF => ?_) (fun v7 => ?_)
  · have h10_ : (inI x 1 16) = true → v6 = (Iv y) := hF.1
    have h9_ : v5 = (Bo (inI x 1 16)) := hF.2.1
    clear hF
    obtain rfl := h9_
    refine doesG_g (b := (inI x 1 16)) rfl (yld rfl rfl) (fun hg1 => ?_) (fun hc => ⟨fun hg1 => absurd hg1 hc, Ext.refl _⟩)
    obtain rfl := h10_ hg1
    refine (does_call (args := #[(Iv y), (Iv 1), (Iv 16)]) cal43 (evs rfl) (c_spec_l00In y 1 16 _)).mono ?_; rintro v u' ⟨hx, hv⟩
    exact ⟨fun _ => hv, hx⟩
  refine RW_d _ rfl (fun v => by dsimp only [List.set]; try rfl) (fun u hu hF => ?_) (fun v8 => ?_)
  · have h9_ : v5 = (Bo (inI x 1 16)) := hF.1
    have h11_ : (inI x 1 16) = true → v7 = (Bo (inI y 1 16)) := hF.2.1
    clear hF
    refine doesG_un rfl ?_
    skip
    obtain rfl := h9_
    refine (does_pick (b := (inI x 1 16)) (ev rfl) (ev rfl) (ev rfl)).mono ?_; rintro _ _ ⟨rfl, rfl⟩; refine ⟨?_, Ext.refl _⟩; rw [hβ1]; skip
    cases hbb : (inI x 1 16) <;> simp [hbb] at h11_ ⊢
    all_goals (first | rfl | (subst h11_; rfl) | simp_all)
  refine RW_d _ rfl (fun v => by dsimp only [List.set]; try rfl) (fun u hu hF => ?_) (fun v9 => ?_)
  · have h12_ : v8 = (Bo β1) := hF.1
    clear hF
    refine doesG_un rfl ?_
    obtain rfl := h12_
    refine (does_move (u := (Bo β1)) (ev rfl)).mono ?_; rintro _ _ ⟨rfl, rfl⟩
    exact ⟨rfl, Ext.refl _⟩
  refine RW_d _ rfl (fun v => by dsimp only [List.set]; try rfl) (fun u hu hF => ?_) (fun v10 => ?_)
  · have h13_ : v9 = (Bo β1) := hF.1
    clear hF
    obtain rfl := h13_
    refine doesG_g (b := β1) rfl (yld rfl rfl) (fun hg1 => ?_) (fun hc => ⟨fun hg1 => absurd hg1 hc, Ext.refl _⟩)
    refine (does_move (u := (Iv z)) (ev rfl)).mono ?_; rintro _ _ ⟨rfl, rfl⟩
    exact ⟨fun _ => rfl, Ext.refl _⟩
  refine RW_d _ rfl (fun v => by dsimp only [List.set]; try rfl) (fun u hu hF => ?_) (fun v11 => ?_)
  · have h14_ : β1 = true → v10 = (Iv z) := hF.1
    have h13_ : v9 = (Bo β1) := hF.2.1
    clear hF
    obtain rfl := h13_
    refine doesG_g (b := β1) rfl (yld rfl rfl) (fun hg1 => ?_) (fun hc => ⟨fun hg1 => absurd hg1 hc, Ext.refl _⟩)
    obtain rfl := h14_ hg1
    refine (does_call (args := #[(Iv z), (Iv 1), (Iv 16)]) cal43 (evs rfl) (c_spec_l00In z 1 16 _)).mono ?_; rintro v u' ⟨hx, hv⟩
    exact ⟨fun _ => hv, hx⟩
  refine RW_d _ rfl (fun v => by dsimp only [List.set]; try rfl) (fun u hu hF => ?_) (fun v12 => ?_)
  · have h13_ : v9 = (Bo β1) := hF.1
    have h15_ : β1 = true → v11 = (Bo (inI z 1 16)) := hF.2.1
    clear hF
    refine doesG_un rfl ?_
    skip
    obtain rfl := h13_
    refine (does_pick (b := β1) (ev rfl) (ev rfl) (ev rfl)).mono ?_; rintro _ _ ⟨rfl, rfl⟩; refine ⟨?_, Ext.refl _⟩; skip
    cases hbb : β1 <;> simp [hbb] at h15_ ⊢
    all_goals (first | rfl | (subst h15_; rfl) | simp_all)
  refine RW_d _ rfl (fun v => by dsimp only [List.set]; try rfl) (fun u hu hF => ?_) (fun v13 => ?_)
  · have h16_ : v12 = (Bo (β1 && (inI z 1 16))) := hF.1
    clear hF
    refine doesG_un rfl ?_
    obtain rfl := h16_
    refine (does_move (u := (Bo (β1 && (inI z 1 16)))) (ev rfl)).mono ?_; rintro _ _ ⟨rfl, rfl⟩
    exact ⟨rfl, Ext.refl _⟩
  refine RW_d _ rfl (fun v => by dsimp only [List.set]; try rfl) (fun u hu hF => ?_) (fun v14 => ?_)
  · have h17_ : v13 = (Bo (β1 && (inI z 1 16))) := hF.1
    clear hF
    obtain rfl := h17_
    refine doesG_g (b := (β1 && (inI z 1 16))) rfl (yld rfl rfl) (fun hg1 => ?_) (fun hc => ⟨fun hg1 => absurd hg1 hc, Ext.refl _⟩)
    refine (does_move (u := (Iv x)) (ev rfl)).mono ?_; rintro _ _ ⟨rfl, rfl⟩
    exact ⟨fun _ => rfl, Ext.refl _⟩
  refine RW_d _ rfl (fun v => by dsimp only [List.set]; try rfl) (fun u hu hF => ?_) (fun v15 => ?_)
  · have h17_ : v13 = (Bo (β1 && (inI z 1 16))) := hF.1
    clear hF
    obtain rfl := h17_
    refine doesG_g (b := (β1 && (inI z 1 16))) rfl (yld rfl rfl) (fun hg1 => ?_) (fun hc => ⟨fun hg1 => absurd hg1 hc, Ext.refl _⟩)
    refine (does_move (u := (Iv y)) (ev rfl)).mono ?_; rintro _ _ ⟨rfl, rfl⟩
    exact ⟨fun _ => rfl, Ext.refl _⟩
  refine RW_d _ rfl (fun v => by dsimp only [List.set]; try rfl) (fun u hu hF => ?_) (fun v16 => ?_)
  · have h18_ : (β1 && (inI z 1 16)) = true → v14 = (Iv x) := hF.1
    have h19_ : (β1 && (inI z 1 16)) = true → v15 = (Iv y) := hF.2.1
    have h17_ : v13 = (Bo (β1 && (inI z 1 16))) := hF.2.2.1
    clear hF
    obtain rfl := h17_
    refine doesG_g (b := (β1 && (inI z 1 16))) rfl (yld rfl rfl) (fun hg1 => ?_) (fun hc => ⟨fun hg1 => absurd hg1 hc, Ext.refl _⟩)
    obtain rfl := h18_ hg1
    obtain rfl := h19_ hg1
    refine (does_iarith (p := x) (q := y) (r := IntKind.i64.wrap (x * y)) (ev rfl) (ev rfl) (.inr (.inr ⟨rfl, rfl⟩))).mono ?_; rintro _ _ ⟨rfl, rfl⟩
    exact ⟨fun _ => rfl, Ext.refl _⟩
  refine RW_d _ rfl (fun v => by dsimp only [List.set]; try rfl) (fun u hu hF => ?_) (fun v17 => ?_)
  · have h17_ : v13 = (Bo (β1 && (inI z 1 16))) := hF.1
    clear hF
    obtain rfl := h17_
    refine doesG_g (b := (β1 && (inI z 1 16))) rfl (yld rfl rfl) (fun hg1 => ?_) (fun hc => ⟨fun hg1 => absurd hg1 hc, Ext.refl _⟩)
    refine (does_move (u := (Iv z)) (ev rfl)).mono ?_; rintro _ _ ⟨rfl, rfl⟩
    exact ⟨fun _ => rfl, Ext.refl _⟩
  refine RW_d _ rfl (fun v => by dsimp only [List.set]; try rfl) (fun u hu hF => ?_) (fun v18 => ?_)
  · have h20_ : (β1 && (inI z 1 16)) = true → v16 = (Iv (IntKind.i64.wrap (x * y))) := hF.1
    have h21_ : (β1 && (inI z 1 16)) = true → v17 = (Iv z) := hF.2.1
    have h17_ : v13 = (Bo (β1 && (inI z 1 16))) := hF.2.2.1
    clear hF
    obtain rfl := h17_
    refine doesG_g (b := (β1 && (inI z 1 16))) rfl (yld rfl rfl) (fun hg1 => ?_) (fun hc => ⟨fun hg1 => absurd hg1 hc, Ext.refl _⟩)
    obtain rfl := h20_ hg1
    obtain rfl := h21_ hg1
    refine (does_iarith (p := IntKind.i64.wrap (x * y)) (q := z) (r := IntKind.i64.wrap ((IntKind.i64.wrap (x * y)) * z)) (ev rfl) (ev rfl) (.inr (.inr ⟨rfl, rfl⟩))).mono ?_; rintro _ _ ⟨rfl, rfl⟩
    exact ⟨fun _ => rfl, Ext.refl _⟩
  refine RW_d _ rfl (fun v => by dsimp only [List.set]; try rfl) (fun u hu hF => ?_) (fun v19 => ?_)
  · have h22_ : (β1 && (inI z 1 16)) = true → v18 = (Iv (IntKind.i64.wrap ((IntKind.i64.wrap (x * y)) * z))) := hF.1
    have h17_ : v13 = (Bo (β1 && (inI z 1 16))) := hF.2.1
    clear hF
    obtain rfl := h17_
    refine doesG_g (b := (β1 && (inI z 1 16))) rfl (yld rfl rfl) (fun hg1 => ?_) (fun hc => ⟨fun hg1 => absurd hg1 hc, Ext.refl _⟩)
    obtain rfl := h22_ hg1
    refine (does_icmp (p := IntKind.i64.wrap ((IntKind.i64.wrap (x * y)) * z)) (q := 1024) (.inr (.inr (.inr (.inl rfl)))) (ev rfl) (ev rfl)).mono ?_; rintro _ _ ⟨rfl, rfl⟩
    exact ⟨fun _ => (by first | rfl | (show _ = _; simp only [hβ2])), Ext.refl _⟩
  refine RW_d _ rfl (fun v => by dsimp only [List.set]; try rfl) (fun u hu hF => ?_) (fun v20 => ?_)
  · have h17_ : v13 = (Bo (β1 && (inI z 1 16))) := hF.1
    have h23_ : (β1 && (inI z 1 16)) = true → v19 = (Bo β2) := hF.2.1
    clear hF
    refine doesG_un rfl ?_
    skip
    obtain rfl := h17_
    refine (does_pick (b := (β1 && (inI z 1 16))) (ev rfl) (ev rfl) (ev rfl)).mono ?_; rintro _ _ ⟨rfl, rfl⟩; refine ⟨?_, Ext.refl _⟩; rw [hβ3]; skip
    cases hbb : (β1 && (inI z 1 16)) <;> simp [hbb] at h23_ ⊢
    all_goals (first | rfl | (subst h23_; rfl) | simp_all)
  refine RW_fin ?_; intro w21 E22 hP23
  obtain ⟨⟨⟨⟨⟨⟨⟨⟨⟨⟨⟨⟨⟨⟨⟨⟨⟨⟨-, -⟩, -⟩, -⟩, -⟩, -⟩, -⟩, -⟩, -⟩, -⟩, -⟩, -⟩, -⟩, -⟩, -⟩, -⟩, -⟩, -⟩, q24⟩ := hP23
  have X25 := Ext.gr (Ext.refl w) E22
  have q24 : v20 = (Bo β3) := q24
  obtain rfl := q24
  show wpList _ _ _ _ (fr [(Iv x), (Iv y), (Iv z), Ud, Ud, Ud, (Bo false), v3, v4, v5, v6, v7, v8, v9, v10, v11, v12, v13, v14, v15, v16, v17, v18, v19, (Bo β3)]) _
  refine q_is rfl rfl (does_assign (u := (Bo β3)) (ev rfl)) (by dsimp only [List.set]; try rfl) ?_
  refine wpList_nil (hK2 _ _ ?_)
  refine wp_ret ?_
  refine ret_val (v := (Bo β3)) (res_T rfl (slot rfl)) X25 ?_
  have x26 : (cntOk x y z) = β3 := by first | with_reducible rfl | (simp only [cntOk, prod3, hβ1, hβ2, hβ3]; done) | (simp [cntOk, prod3, hβ1, hβ2, hβ3]; done) | rfl
  exact (by first | rfl | rw [x26])

/- spec.l06Is -/
theorem c_spec_l06Is (g_b : Nat) (g_o : Nat) (g : List Value) (A_g : GridT) (w : World) (hc_g : Cells w g_b g_o g) (hv_g : RGridT w A_g g) : Gives Try.prog 16 #[(Pt g_b g_o)] w (fun v w' => v = (Bo (isGrid A_g))) := by
  obtain ⟨r1, r3, r5, r7, y9, rfl, h2, h4, h6, h8, h10⟩ := hv_g
  have hs13 := h10; have hs13l := Sl.len h10; obtain ⟨p11, q12, rfl⟩ := Sl.shape h10
  refine enter [(Pt g_b g_o), Ud, Ud, Ud, Ud, Ud, Ud, Ud, Ud, Ud, Ud, Ud, Ud, Ud, Ud, Ud, Ud, Ud, Ud, Ud, Ud, Ud, Ud, Ud, Ud, Ud, Ud, Ud, Ud, Ud, Ud, Ud, Ud, Ud, Ud, Ud, Ud, Ud, Ud, Ud, Ud, Ud, Ud, Ud, Ud, Ud, Ud, Ud, Ud, Ud, Ud, Ud, Ud, Ud, Ud, Ud, Ud, Ud, Ud] Try.func16 rfl Try.ntmps16 rfl ?_
  refine wp_seq_k fun K14 hK14 => ?_
  refine wp_region_lit ?_
  refine q_is rfl rfl (does_assign (u := (Bo false)) (ev rfl)) (by dsimp only [List.set]; try rfl) ?_
  refine wpList_nil (hK14 _ _ ?_)
  refine wp_seq_k fun K15 hK15 => ?_
  obtain ⟨β1, hβ1⟩ : ∃ b : Bool, b = ((finV A_g.low) && (finF (cf .f32 r7))) := ⟨_, rfl⟩
  obtain ⟨β2, hβ2⟩ : ∃ b : Bool, b = (fcmp .gtr (ford .f32 (cf .f32 r7) (cf .f32 0))) := ⟨_, rfl⟩
  obtain ⟨β3, hβ3⟩ : ∃ b : Bool, b = ((β1 && β2) && (cntOk A_g.x A_g.y A_g.z)) := ⟨_, rfl⟩
  obtain ⟨β4, hβ4⟩ : ∃ b : Bool, b = (icmp .eql (A_g.vals.length : Int) (IntKind.i64.wrap ((IntKind.i64.wrap (A_g.x * A_g.y)) * A_g.z))) := ⟨_, rfl⟩
  refine region_draw (
    [Fact.pure [] (fun v => v = (Pt g_b g_o)),
    Fact.pure [3] (fun v => v = (Pt g_b g_o)),
    Fact.pure [4] (fun v => v = (Pt g_b g_o)),
    Fact.pure [5] (fun v => v = (.agg #[(Fl r1), (Fl r3), (Fl r5)])),
    Fact.pure [6] (fun v => v = (Bo (finV A_g.low))),
    Fact.pure [7] (fun v => v = (Bo (finV A_g.low))),
    Fact.pure [8] (fun v => (finV A_g.low) = true → v = (Pt g_b g_o)),
    Fact.pure [9, 8] (fun v => (finV A_g.low) = true → v = (Pt g_b g_o)),
    Fact.pure [10, 8] (fun v => (finV A_g.low) = true → v = (Pt g_b (g_o + 3))),
    Fact.pure [11, 8] (fun v => (finV A_g.low) = true → v = (Fl r7)),
    Fact.pure [12, 8] (fun v => (finV A_g.low) = true → v = (Bo (finF (cf .f32 r7)))),
    Fact.pure [8, 13] (fun v => v = (Bo β1)),
    Fact.pure [14] (fun v => v = (Bo β1)),
    Fact.pure [15] (fun v => β1 = true → v = (Pt g_b g_o)),
    Fact.pure [16, 15] (fun v => β1 = true → v = (Pt g_b g_o)),
    Fact.pure [17, 15] (fun v => β1 = true → v = (Pt g_b (g_o + 3))),
    Fact.pure [18, 15] (fun v => β1 = true → v = (Fl r7)),
    Fact.pure [19, 15] (fun v => β1 = true → v = (Bo β2)),
    Fact.pure [15, 20] (fun v => v = (Bo (β1 && β2))),
    Fact.pure [21] (fun v => v = (Bo (β1 && β2))),
    Fact.pure [22] (fun v => (β1 && β2) = true → v = (Pt g_b g_o)),
    Fact.pure [23, 22] (fun v => (β1 && β2) = true → v = (Pt g_b g_o)),
    Fact.pure [24, 22] (fun v => (β1 && β2) = true → v = (Pt g_b (g_o + 4))),
    Fact.pure [25, 22] (fun v => (β1 && β2) = true → v = (Iv A_g.x)),
    Fact.pure [22] (fun v => (β1 && β2) = true → v = (Pt g_b g_o)),
    Fact.pure [27, 22] (fun v => (β1 && β2) = true → v = (Pt g_b g_o)),
    Fact.pure [28, 22] (fun v => (β1 && β2) = true → v = (Pt g_b (g_o + 5))),
    Fact.pure [29, 22] (fun v => (β1 && β2) = true → v = (Iv A_g.y)),
    Fact.pure [22] (fun v => (β1 && β2) = true → v = (Pt g_b g_o)),
    Fact.pure [31, 22] (fun v => (β1 && β2) = true → v = (Pt g_b g_o)),
    Fact.pure [32, 22] (fun v => (β1 && β2) = true → v = (Pt g_b (g_o + 6))),
    Fact.pure [33, 22] (fun v => (β1 && β2) = true → v = (Iv A_g.z)),
    Fact.pure [26, 30, 34, 22] (fun v => (β1 && β2) = true → v = (Bo (cntOk A_g.x A_g.y A_g.z))),
    Fact.pure [22, 35] (fun v => v = (Bo β3)),
    Fact.pure [36] (fun v => v = (Bo β3)),
    Fact.pure [37] (fun v => β3 = true → v = (Pt g_b g_o)),
    Fact.pure [38, 37] (fun v => β3 = true → v = (Pt g_b g_o)),
    Fact.pure [39, 37] (fun v => β3 = true → v = (Pt g_b (g_o + 7))),
    Fact.pure [40, 37] (fun v => β3 = true → v = (.slice p11 A_g.vals.length q12)),
    Fact.pure [41, 37] (fun v => β3 = true → v = (Iv (A_g.vals.length : Int))),
    Fact.pure [37] (fun v => β3 = true → v = (Pt g_b g_o)),
    Fact.pure [43, 37] (fun v => β3 = true → v = (Pt g_b g_o)),
    Fact.pure [44, 37] (fun v => β3 = true → v = (Pt g_b (g_o + 4))),
    Fact.pure [45, 37] (fun v => β3 = true → v = (Iv A_g.x)),
    Fact.pure [37] (fun v => β3 = true → v = (Pt g_b g_o)),
    Fact.pure [47, 37] (fun v => β3 = true → v = (Pt g_b g_o)),
    Fact.pure [48, 37] (fun v => β3 = true → v = (Pt g_b (g_o + 5))),
    Fact.pure [49, 37] (fun v => β3 = true → v = (Iv A_g.y)),
    Fact.pure [46, 50, 37] (fun v => β3 = true → v = (Iv (IntKind.i64.wrap (A_g.x * A_g.y)))),
    Fact.pure [37] (fun v => β3 = true → v = (Pt g_b g_o)),
    Fact.pure [52, 37] (fun v => β3 = true → v = (Pt g_b g_o)),
    Fact.pure [53, 37] (fun v => β3 = true → v = (Pt g_b (g_o + 6))),
    Fact.pure [54, 37] (fun v => β3 = true → v = (Iv A_g.z)),
    Fact.pure [51, 55, 37] (fun v => β3 = true → v = (Iv (IntKind.i64.wrap ((IntKind.i64.wrap (A_g.x * A_g.y)) * A_g.z)))),
    Fact.pure [42, 56, 37] (fun v => β3 = true → v = (Bo β4)),
    Fact.pure [37, 57] (fun v => v = (Bo (β3 && β4)))]) mixed (by kernel_rfl) (by intro _ _ d _ _ h; cases d <;> exact h) ?_
  obtain ⟨w16, hw18⟩ : ∃ w', w' = World.drew w := ⟨_, rfl⟩; rw [← hw18]; have E17 : Ext w w16 := by rw [hw18]; exact Ext.draw _
  clear hw18
  have X19 := Ext.gr (Ext.refl w) E17
  refine RW_d _ rfl (fun v => by dsimp only [List.set]; try rfl) (fun u hu hF => ?_) (fun v20 => ?_)
  · clear hF
    refine doesG_un rfl ?_
    refine (does_move (u := (Pt g_b g_o)) (ev rfl)).mono ?_; rintro _ _ ⟨rfl, rfl⟩
    exact ⟨rfl, Ext.refl _⟩
  refine RW_d _ rfl (fun v => by dsimp only [List.set]; try rfl) (fun u hu hF => ?_) (fun v21 => ?_)
  · have h3_ : v20 = (Pt g_b g_o) := hF.1
    clear hF
    refine doesG_un rfl ?_
    obtain rfl := h3_
    refine (does_nilCheck (ev rfl)).mono ?_; rintro _ _ ⟨rfl, rfl⟩
    exact ⟨rfl, Ext.refl _⟩
  refine RW_d _ rfl (fun v => by dsimp only [List.set]; try rfl) (fun u hu hF => ?_) (fun v22 => ?_)
  · have h4_ : v21 = (Pt g_b g_o) := hF.1
    clear hF
    refine doesG_un rfl ?_
    obtain rfl := h4_
    refine (does_fieldAddr (ev rfl) fa33_0).mono ?_; rintro _ _ ⟨rfl, rfl⟩
    exact ⟨rfl, Ext.refl _⟩
  refine RW_d _ rfl (fun v => by dsimp only [List.set]; try rfl) (fun u hu hF => ?_) (fun v23 => ?_)
  · have h5_ : v22 = (Pt g_b g_o) := hF.1
    clear hF
    refine doesG_un rfl ?_
    obtain rfl := h5_
    refine (does_loadAgg (cs := [(Fl r1), (Fl r3), (Fl r5)]) (ev rfl) Try.isAgg31 Try.sizeOf31 (Cells.sub ((hc_g.ext (Ext.gr (Ext.refl w) E17)).ext hu) 0 3) rfl).mono ?_; rintro _ _ ⟨rfl, rfl⟩
    exact ⟨rfl, Ext.refl _⟩
  refine RW_d _ rfl (fun v => by dsimp only [List.set]; try rfl) (fun u hu hF => ?_) (fun v24 => ?_)
  · have h6_ : v23 = (.agg #[(Fl r1), (Fl r3), (Fl r5)]) := hF.1
    clear hF
    refine doesG_un rfl ?_
    obtain rfl := h6_
    refine (does_call (args := #[(.agg #[(Fl r1), (Fl r3), (Fl r5)])]) cal17 (evs rfl) (c_spec_l01VFinite [(Fl r1), (Fl r3), (Fl r5)] A_g.low _ ⟨r1, r3, r5, rfl, h2, h4, h6⟩)).mono ?_; rintro v u' ⟨hx, hv⟩
    exact ⟨hv, hx⟩
  refine RW_d _ rfl (fun v => by dsimp only [List.set]; try rfl) (fun u hu hF => ?_) (fun v25 => ?_)
  · have h7_ : v24 = (Bo (finV A_g.low)) := hF.1
    clear hF
    refine doesG_un rfl ?_
    obtain rfl := h7_
    refine (does_move (u := (Bo (finV A_g.low))) (ev rfl)).mono ?_; rintro _ _ ⟨rfl, rfl⟩
    exact ⟨rfl, Ext.refl _⟩
  refine RW_d _ rfl (fun v => by dsimp only [List.set]; try rfl) (fun u hu hF => ?_) (fun v26 => ?_)
  · have h8_ : v25 = (Bo (finV A_g.low)) := hF.1
    clear hF
    obtain rfl := h8_
    refine doesG_g (b := (finV A_g.low)) rfl (yld rfl rfl) (fun hg1 => ?_) (fun hc => ⟨fun hg1 => absurd hg1 hc, Ext.refl _⟩)
    refine (does_move (u := (Pt g_b g_o)) (ev rfl)).mono ?_; rintro _ _ ⟨rfl, rfl⟩
    exact ⟨fun _ => rfl, Ext.refl _⟩
  refine RW_d _ rfl (fun v => by dsimp only [List.set]; try rfl) (fun u hu hF => ?_) (fun v27 => ?_)
  · have h9_ : (finV A_g.low) = true → v26 = (Pt g_b g_o) := hF.1
    have h8_ : v25 = (Bo (finV A_g.low)) := hF.2.1
    clear hF
    obtain rfl := h8_
    refine doesG_g (b := (finV A_g.low)) rfl (yld rfl rfl) (fun hg1 => ?_) (fun hc => ⟨fun hg1 => absurd hg1 hc, Ext.refl _⟩)
    obtain rfl := h9_ hg1
    refine (does_nilCheck (ev rfl)).mono ?_; rintro _ _ ⟨rfl, rfl⟩
    exact ⟨fun _ => rfl, Ext.refl _⟩
  refine RW_d _ rfl (fun v => by dsimp only [List.set]; try rfl) (fun u hu hF => ?_) (fun v28 => ?_)
  · have h10_ : (finV A_g.low) = true → v27 = (Pt g_b g_o) := hF.1
    have h8_ : v25 = (Bo (finV A_g.low)) := hF.2.1
    clear hF
    obtain rfl := h8_
    refine doesG_g (b := (finV A_g.low)) rfl (yld rfl rfl) (fun hg1 => ?_) (fun hc => ⟨fun hg1 => absurd hg1 hc, Ext.refl _⟩)
    obtain rfl := h10_ hg1
    refine (does_fieldAddr (ev rfl) fa33_1).mono ?_; rintro _ _ ⟨rfl, rfl⟩
    exact ⟨fun _ => rfl, Ext.refl _⟩
  refine RW_d _ rfl (fun v => by dsimp only [List.set]; try rfl) (fun u hu hF => ?_) (fun v29 => ?_)
  · have h11_ : (finV A_g.low) = true → v28 = (Pt g_b (g_o + 3)) := hF.1
    have h8_ : v25 = (Bo (finV A_g.low)) := hF.2.1
    clear hF
    obtain rfl := h8_
    refine doesG_g (b := (finV A_g.low)) rfl (yld rfl rfl) (fun hg1 => ?_) (fun hc => ⟨fun hg1 => absurd hg1 hc, Ext.refl _⟩)
    obtain rfl := h11_ hg1
    refine (does_load (u := (Fl r7)) (ev rfl) Try.isAgg22 (Cells.at ((hc_g.ext (Ext.gr (Ext.refl w) E17)).ext hu) 3 rfl)).mono ?_; rintro _ _ ⟨rfl, rfl⟩
    exact ⟨fun _ => rfl, Ext.refl _⟩
  refine RW_d _ rfl (fun v => by dsimp only [List.set]; try rfl) (fun u hu hF => ?_) (fun v30 => ?_)
  · have h12_ : (finV A_g.low) = true → v29 = (Fl r7) := hF.1
    have h8_ : v25 = (Bo (finV A_g.low)) := hF.2.1
    clear hF
    obtain rfl := h8_
    refine doesG_g (b := (finV A_g.low)) rfl (yld rfl rfl) (fun hg1 => ?_) (fun hc => ⟨fun hg1 => absurd hg1 hc, Ext.refl _⟩)
    obtain rfl := h12_ hg1
    refine (does_call (args := #[(Fl r7)]) cal28 (evs rfl) (c_spec_l01Finite r7 _)).mono ?_; rintro v u' ⟨hx, hv⟩
    exact ⟨fun _ => hv, hx⟩
  refine RW_d _ rfl (fun v => by dsimp only [List.set]; try rfl) (fun u hu hF => ?_) (fun v31 => ?_)
  · have h8_ : v25 = (Bo (finV A_g.low)) := hF.1
    have h13_ : (finV A_g.low) = true → v30 = (Bo (finF (cf .f32 r7))) := hF.2.1
    clear hF
    refine doesG_un rfl ?_
    skip
    obtain rfl := h8_
    refine (does_pick (b := (finV A_g.low)) (ev rfl) (ev rfl) (ev rfl)).mono ?_; rintro _ _ ⟨rfl, rfl⟩; refine ⟨?_, Ext.refl _⟩; rw [hβ1]; skip
    cases hbb : (finV A_g.low) <;> simp [hbb] at h13_ ⊢
    all_goals (first | rfl | (subst h13_; rfl) | simp_all)
  refine RW_d _ rfl (fun v => by dsimp only [List.set]; try rfl) (fun u hu hF => ?_) (fun v32 => ?_)
  · have h14_ : v31 = (Bo β1) := hF.1
    clear hF
    refine doesG_un rfl ?_
    obtain rfl := h14_
    refine (does_move (u := (Bo β1)) (ev rfl)).mono ?_; rintro _ _ ⟨rfl, rfl⟩
    exact ⟨rfl, Ext.refl _⟩
  refine RW_d _ rfl (fun v => by dsimp only [List.set]; try rfl) (fun u hu hF => ?_) (fun v33 => ?_)
  · have h15_ : v32 = (Bo β1) := hF.1
    clear hF
    obtain rfl := h15_
    refine doesG_g (b := β1) rfl (yld rfl rfl) (fun hg1 => ?_) (fun hc => ⟨fun hg1 => absurd hg1 hc, Ext.refl _⟩)
    refine (does_move (u := (Pt g_b g_o)) (ev rfl)).mono ?_; rintro _ _ ⟨rfl, rfl⟩
    exact ⟨fun _ => rfl, Ext.refl _⟩
  refine RW_d _ rfl (fun v => by dsimp only [List.set]; try rfl) (fun u hu hF => ?_) (fun v34 => ?_)
  · have h16_ : β1 = true → v33 = (Pt g_b g_o) := hF.1
    have h15_ : v32 = (Bo β1) := hF.2.1
    clear hF
    obtain rfl := h15_
    refine doesG_g (b := β1) rfl (yld rfl rfl) (fun hg1 => ?_) (fun hc => ⟨fun hg1 => absurd hg1 hc, Ext.refl _⟩)
    obtain rfl := h16_ hg1
    refine (does_nilCheck (ev rfl)).mono ?_; rintro _ _ ⟨rfl, rfl⟩
    exact ⟨fun _ => rfl, Ext.refl _⟩
  refine RW_d _ rfl (fun v => by dsimp only [List.set]; try rfl) (fun u hu hF => ?_) (fun v35 => ?_)
  · have h17_ : β1 = true → v34 = (Pt g_b g_o) := hF.1
    have h15_ : v32 = (Bo β1) := hF.2.1
    clear hF
    obtain rfl := h15_
    refine doesG_g (b := β1) rfl (yld rfl rfl) (fun hg1 => ?_) (fun hc => ⟨fun hg1 => absurd hg1 hc, Ext.refl _⟩)
    obtain rfl := h17_ hg1
    refine (does_fieldAddr (ev rfl) fa33_1).mono ?_; rintro _ _ ⟨rfl, rfl⟩
    exact ⟨fun _ => rfl, Ext.refl _⟩
  refine RW_d _ rfl (fun v => by dsimp only [List.set]; try rfl) (fun u hu hF => ?_) (fun v36 => ?_)
  · have h18_ : β1 = true → v35 = (Pt g_b (g_o + 3)) := hF.1
    have h15_ : v32 = (Bo β1) := hF.2.1
    clear hF
    obtain rfl := h15_
    refine doesG_g (b := β1) rfl (yld rfl rfl) (fun hg1 => ?_) (fun hc => ⟨fun hg1 => absurd hg1 hc, Ext.refl _⟩)
    obtain rfl := h18_ hg1
    refine (does_load (u := (Fl r7)) (ev rfl) Try.isAgg22 (Cells.at ((hc_g.ext (Ext.gr (Ext.refl w) E17)).ext hu) 3 rfl)).mono ?_; rintro _ _ ⟨rfl, rfl⟩
    exact ⟨fun _ => rfl, Ext.refl _⟩
  refine RW_d _ rfl (fun v => by dsimp only [List.set]; try rfl) (fun u hu hF => ?_) (fun v37 => ?_)
  · have h19_ : β1 = true → v36 = (Fl r7) := hF.1
    have h15_ : v32 = (Bo β1) := hF.2.1
    clear hF
    obtain rfl := h15_
    refine doesG_g (b := β1) rfl (yld rfl rfl) (fun hg1 => ?_) (fun hc => ⟨fun hg1 => absurd hg1 hc, Ext.refl _⟩)
    obtain rfl := h19_ hg1
    refine (does_fcmp (.inr (.inr (.inr (.inr (.inl rfl))))) (ev rfl) (ev rfl)).mono ?_; rintro _ _ ⟨rfl, rfl⟩
    exact ⟨fun _ => (by first | rfl | (show _ = _; simp only [hβ2])), Ext.refl _⟩
  refine RW_d _ rfl (fun v => by dsimp only [List.set]; try rfl) (fun u hu hF => ?_) (fun v38 => ?_)
  · have h15_ : v32 = (Bo β1) := hF.1
    have h20_ : β1 = true → v37 = (Bo β2) := hF.2.1
    clear hF
    refine doesG_un rfl ?_
    skip
    obtain rfl := h15_
    refine (does_pick (b := β1) (ev rfl) (ev rfl) (ev rfl)).mono ?_; rintro _ _ ⟨rfl, rfl⟩; refine ⟨?_, Ext.refl _⟩; skip
    cases hbb : β1 <;> simp [hbb] at h20_ ⊢
    all_goals (first | rfl | (subst h20_; rfl) | simp_all)
  refine RW_d _ rfl (fun v => by dsimp only [List.set]; try rfl) (fun u hu hF => ?_) (fun v39 => ?_)
  · have h21_ : v38 = (Bo (β1 && β2)) := hF.1
    clear hF
    refine doesG_un rfl ?_
    obtain rfl := h21_
    refine (does_move (u := (Bo (β1 && β2))) (ev rfl)).mono ?_; rintro _ _ ⟨rfl, rfl⟩
    exact ⟨rfl, Ext.refl _⟩
  refine RW_d _ rfl (fun v => by dsimp only [List.set]; try rfl) (fun u hu hF => ?_) (fun v40 => ?_)
  · have h22_ : v39 = (Bo (β1 && β2)) := hF.1
    clear hF
    obtain rfl := h22_
    refine doesG_g (b := (β1 && β2)) rfl (yld rfl rfl) (fun hg1 => ?_) (fun hc => ⟨fun hg1 => absurd hg1 hc, Ext.refl _⟩)
    refine (does_move (u := (Pt g_b g_o)) (ev rfl)).mono ?_; rintro _ _ ⟨rfl, rfl⟩
    exact ⟨fun _ => rfl, Ext.refl _⟩
  refine RW_d _ rfl (fun v => by dsimp only [List.set]; try rfl) (fun u hu hF => ?_) (fun v41 => ?_)
  · have h23_ : (β1 && β2) = true → v40 = (Pt g_b g_o) := hF.1
    have h22_ : v39 = (Bo (β1 && β2)) := hF.2.1
    clear hF
    obtain rfl := h22_
    refine doesG_g (b := (β1 && β2)) rfl (yld rfl rfl) (fun hg1 => ?_) (fun hc => ⟨fun hg1 => absurd hg1 hc, Ext.refl _⟩)
    obtain rfl := h23_ hg1
    refine (does_nilCheck (ev rfl)).mono ?_; rintro _ _ ⟨rfl, rfl⟩
    exact ⟨fun _ => rfl, Ext.refl _⟩
  refine RW_d _ rfl (fun v => by dsimp only [List.set]; try rfl) (fun u hu hF => ?_) (fun v42 => ?_)
  · have h24_ : (β1 && β2) = true → v41 = (Pt g_b g_o) := hF.1
    have h22_ : v39 = (Bo (β1 && β2)) := hF.2.1
    clear hF
    obtain rfl := h22_
    refine doesG_g (b := (β1 && β2)) rfl (yld rfl rfl) (fun hg1 => ?_) (fun hc => ⟨fun hg1 => absurd hg1 hc, Ext.refl _⟩)
    obtain rfl := h24_ hg1
    refine (does_fieldAddr (ev rfl) fa33_2).mono ?_; rintro _ _ ⟨rfl, rfl⟩
    exact ⟨fun _ => rfl, Ext.refl _⟩
  refine RW_d _ rfl (fun v => by dsimp only [List.set]; try rfl) (fun u hu hF => ?_) (fun v43 => ?_)
  · have h25_ : (β1 && β2) = true → v42 = (Pt g_b (g_o + 4)) := hF.1
    have h22_ : v39 = (Bo (β1 && β2)) := hF.2.1
    clear hF
    obtain rfl := h22_
    refine doesG_g (b := (β1 && β2)) rfl (yld rfl rfl) (fun hg1 => ?_) (fun hc => ⟨fun hg1 => absurd hg1 hc, Ext.refl _⟩)
    obtain rfl := h25_ hg1
    refine (does_load (u := (Iv A_g.x)) (ev rfl) Try.isAgg2 (Cells.at ((hc_g.ext (Ext.gr (Ext.refl w) E17)).ext hu) 4 rfl)).mono ?_; rintro _ _ ⟨rfl, rfl⟩
    exact ⟨fun _ => rfl, Ext.refl _⟩
  refine RW_d _ rfl (fun v => by dsimp only [List.set]; try rfl) (fun u hu hF => ?_) (fun v44 => ?_)
  · have h22_ : v39 = (Bo (β1 && β2)) := hF.1
    clear hF
    obtain rfl := h22_
    refine doesG_g (b := (β1 && β2)) rfl (yld rfl rfl) (fun hg1 => ?_) (fun hc => ⟨fun hg1 => absurd hg1 hc, Ext.refl _⟩)
    refine (does_move (u := (Pt g_b g_o)) (ev rfl)).mono ?_; rintro _ _ ⟨rfl, rfl⟩
    exact ⟨fun _ => rfl, Ext.refl _⟩
  refine RW_d _ rfl (fun v => by dsimp only [List.set]; try rfl) (fun u hu hF => ?_) (fun v45 => ?_)
  · have h27_ : (β1 && β2) = true → v44 = (Pt g_b g_o) := hF.1
    have h22_ : v39 = (Bo (β1 && β2)) := hF.2.1
    clear hF
    obtain rfl := h22_
    refine doesG_g (b := (β1 && β2)) rfl (yld rfl rfl) (fun hg1 => ?_) (fun hc => ⟨fun hg1 => absurd hg1 hc, Ext.refl _⟩)
    obtain rfl := h27_ hg1
    refine (does_nilCheck (ev rfl)).mono ?_; rintro _ _ ⟨rfl, rfl⟩
    exact ⟨fun _ => rfl, Ext.refl _⟩
  refine RW_d _ rfl (fun v => by dsimp only [List.set]; try rfl) (fun u hu hF => ?_) (fun v46 => ?_)
  · have h28_ : (β1 && β2) = true → v45 = (Pt g_b g_o) := hF.1
    have h22_ : v39 = (Bo (β1 && β2)) := hF.2.1
    clear hF
    obtain rfl := h22_
    refine doesG_g (b := (β1 && β2)) rfl (yld rfl rfl) (fun hg1 => ?_) (fun hc => ⟨fun hg1 => absurd hg1 hc, Ext.refl _⟩)
    obtain rfl := h28_ hg1
    refine (does_fieldAddr (ev rfl) fa33_3).mono ?_; rintro _ _ ⟨rfl, rfl⟩
    exact ⟨fun _ => rfl, Ext.refl _⟩
  refine RW_d _ rfl (fun v => by dsimp only [List.set]; try rfl) (fun u hu hF => ?_) (fun v47 => ?_)
  · have h29_ : (β1 && β2) = true → v46 = (Pt g_b (g_o + 5)) := hF.1
    have h22_ : v39 = (Bo (β1 && β2)) := hF.2.1
    clear hF
    obtain rfl := h22_
    refine doesG_g (b := (β1 && β2)) rfl (yld rfl rfl) (fun hg1 => ?_) (fun hc => ⟨fun hg1 => absurd hg1 hc, Ext.refl _⟩)
    obtain rfl := h29_ hg1
    refine (does_load (u := (Iv A_g.y)) (ev rfl) Try.isAgg2 (Cells.at ((hc_g.ext (Ext.gr (Ext.refl w) E17)).ext hu) 5 rfl)).mono ?_; rintro _ _ ⟨rfl, rfl⟩
    exact ⟨fun _ => rfl, Ext.refl _⟩
  refine RW_d _ rfl (fun v => by dsimp only [List.set]; try rfl) (fun u hu hF => ?_) (fun v48 => ?_)
  · have h22_ : v39 = (Bo (β1 && β2)) := hF.1
    clear hF
    obtain rfl := h22_
    refine doesG_g (b := (β1 && β2)) rfl (yld rfl rfl) (fun hg1 => ?_) (fun hc => ⟨fun hg1 => absurd hg1 hc, Ext.refl _⟩)
    refine (does_move (u := (Pt g_b g_o)) (ev rfl)).mono ?_; rintro _ _ ⟨rfl, rfl⟩
    exact ⟨fun _ => rfl, Ext.refl _⟩
  refine RW_d _ rfl (fun v => by dsimp only [List.set]; try rfl) (fun u hu hF => ?_) (fun v49 => ?_)
  · have h31_ : (β1 && β2) = true → v48 = (Pt g_b g_o) := hF.1
    have h22_ : v39 = (Bo (β1 && β2)) := hF.2.1
    clear hF
    obtain rfl := h22_
    refine doesG_g (b := (β1 && β2)) rfl (yld rfl rfl) (fun hg1 => ?_) (fun hc => ⟨fun hg1 => absurd hg1 hc, Ext.refl _⟩)
    obtain rfl := h31_ hg1
    refine (does_nilCheck (ev rfl)).mono ?_; rintro _ _ ⟨rfl, rfl⟩
    exact ⟨fun _ => rfl, Ext.refl _⟩
  refine RW_d _ rfl (fun v => by dsimp only [List.set]; try rfl) (fun u hu hF => ?_) (fun v50 => ?_)
  · have h32_ : (β1 && β2) = true → v49 = (Pt g_b g_o) := hF.1
    have h22_ : v39 = (Bo (β1 && β2)) := hF.2.1
    clear hF
    obtain rfl := h22_
    refine doesG_g (b := (β1 && β2)) rfl (yld rfl rfl) (fun hg1 => ?_) (fun hc => ⟨fun hg1 => absurd hg1 hc, Ext.refl _⟩)
    obtain rfl := h32_ hg1
    refine (does_fieldAddr (ev rfl) fa33_4).mono ?_; rintro _ _ ⟨rfl, rfl⟩
    exact ⟨fun _ => rfl, Ext.refl _⟩
  refine RW_d _ rfl (fun v => by dsimp only [List.set]; try rfl) (fun u hu hF => ?_) (fun v51 => ?_)
  · have h33_ : (β1 && β2) = true → v50 = (Pt g_b (g_o + 6)) := hF.1
    have h22_ : v39 = (Bo (β1 && β2)) := hF.2.1
    clear hF
    obtain rfl := h22_
    refine doesG_g (b := (β1 && β2)) rfl (yld rfl rfl) (fun hg1 => ?_) (fun hc => ⟨fun hg1 => absurd hg1 hc, Ext.refl _⟩)
    obtain rfl := h33_ hg1
    refine (does_load (u := (Iv A_g.z)) (ev rfl) Try.isAgg2 (Cells.at ((hc_g.ext (Ext.gr (Ext.refl w) E17)).ext hu) 6 rfl)).mono ?_; rintro _ _ ⟨rfl, rfl⟩
    exact ⟨fun _ => rfl, Ext.refl _⟩
  refine RW_d _ rfl (fun v => by dsimp only [List.set]; try rfl) (fun u hu hF => ?_) (fun v52 => ?_)
  · have h26_ : (β1 && β2) = true → v43 = (Iv A_g.x) := hF.1
    have h30_ : (β1 && β2) = true → v47 = (Iv A_g.y) := hF.2.1
    have h34_ : (β1 && β2) = true → v51 = (Iv A_g.z) := hF.2.2.1
    have h22_ : v39 = (Bo (β1 && β2)) := hF.2.2.2.1
    clear hF
    obtain rfl := h22_
    refine doesG_g (b := (β1 && β2)) rfl (yld rfl rfl) (fun hg1 => ?_) (fun hc => ⟨fun hg1 => absurd hg1 hc, Ext.refl _⟩)
    obtain rfl := h26_ hg1
    obtain rfl := h30_ hg1
    obtain rfl := h34_ hg1
    refine (does_call (args := #[(Iv A_g.x), (Iv A_g.y), (Iv A_g.z)]) cal29 (evs rfl) (c_spec_l06Counts A_g.x A_g.y A_g.z _)).mono ?_; rintro v u' ⟨hx, hv⟩
    exact ⟨fun _ => hv, hx⟩
  refine RW_d _ rfl (fun v => by dsimp only [List.set]; try rfl) (fun u hu hF => ?_) (fun v53 => ?_)
  · have h22_ : v39 = (Bo (β1 && β2)) := hF.1
    have h35_ : (β1 && β2) = true → v52 = (Bo (cntOk A_g.x A_g.y A_g.z)) := hF.2.1
    clear hF
    refine doesG_un rfl ?_
    skip
    obtain rfl := h22_
    refine (does_pick (b := (β1 && β2)) (ev rfl) (ev rfl) (ev rfl)).mono ?_; rintro _ _ ⟨rfl, rfl⟩; refine ⟨?_, Ext.refl _⟩; rw [hβ3]; skip
    cases hbb : (β1 && β2) <;> simp [hbb] at h35_ ⊢
    all_goals (first | rfl | (subst h35_; rfl) | simp_all)
  refine RW_d _ rfl (fun v => by dsimp only [List.set]; try rfl) (fun u hu hF => ?_) (fun v54 => ?_)
  · have h36_ : v53 = (Bo β3) := hF.1
    clear hF
    refine doesG_un rfl ?_
    obtain rfl := h36_
    refine (does_move (u := (Bo β3)) (ev rfl)).mono ?_; rintro _ _ ⟨rfl, rfl⟩
    exact ⟨rfl, Ext.refl _⟩
  refine RW_d _ rfl (fun v => by dsimp only [List.set]; try rfl) (fun u hu hF => ?_) (fun v55 => ?_)
  · have h37_ : v54 = (Bo β3) := hF.1
    clear hF
    obtain rfl := h37_
    refine doesG_g (b := β3) rfl (yld rfl rfl) (fun hg1 => ?_) (fun hc => ⟨fun hg1 => absurd hg1 hc, Ext.refl _⟩)
    refine (does_move (u := (Pt g_b g_o)) (ev rfl)).mono ?_; rintro _ _ ⟨rfl, rfl⟩
    exact ⟨fun _ => rfl, Ext.refl _⟩
  refine RW_d _ rfl (fun v => by dsimp only [List.set]; try rfl) (fun u hu hF => ?_) (fun v56 => ?_)
  · have h38_ : β3 = true → v55 = (Pt g_b g_o) := hF.1
    have h37_ : v54 = (Bo β3) := hF.2.1
    clear hF
    obtain rfl := h37_
    refine doesG_g (b := β3) rfl (yld rfl rfl) (fun hg1 => ?_) (fun hc => ⟨fun hg1 => absurd hg1 hc, Ext.refl _⟩)
    obtain rfl := h38_ hg1
    refine (does_nilCheck (ev rfl)).mono ?_; rintro _ _ ⟨rfl, rfl⟩
    exact ⟨fun _ => rfl, Ext.refl _⟩
  refine RW_d _ rfl (fun v => by dsimp only [List.set]; try rfl) (fun u hu hF => ?_) (fun v57 => ?_)
  · have h39_ : β3 = true → v56 = (Pt g_b g_o) := hF.1
    have h37_ : v54 = (Bo β3) := hF.2.1
    clear hF
    obtain rfl := h37_
    refine doesG_g (b := β3) rfl (yld rfl rfl) (fun hg1 => ?_) (fun hc => ⟨fun hg1 => absurd hg1 hc, Ext.refl _⟩)
    obtain rfl := h39_ hg1
    refine (does_fieldAddr (ev rfl) fa33_5).mono ?_; rintro _ _ ⟨rfl, rfl⟩
    exact ⟨fun _ => rfl, Ext.refl _⟩
  refine RW_d _ rfl (fun v => by dsimp only [List.set]; try rfl) (fun u hu hF => ?_) (fun v58 => ?_)
  · have h40_ : β3 = true → v57 = (Pt g_b (g_o + 7)) := hF.1
    have h37_ : v54 = (Bo β3) := hF.2.1
    clear hF
    obtain rfl := h37_
    refine doesG_g (b := β3) rfl (yld rfl rfl) (fun hg1 => ?_) (fun hc => ⟨fun hg1 => absurd hg1 hc, Ext.refl _⟩)
    obtain rfl := h40_ hg1
    refine (does_load (u := (.slice p11 A_g.vals.length q12)) (ev rfl) Try.isAgg25 (Cells.at ((hc_g.ext (Ext.gr (Ext.refl w) E17)).ext hu) 7 rfl)).mono ?_; rintro _ _ ⟨rfl, rfl⟩
    exact ⟨fun _ => rfl, Ext.refl _⟩
  refine RW_d _ rfl (fun v => by dsimp only [List.set]; try rfl) (fun u hu hF => ?_) (fun v59 => ?_)
  · have h41_ : β3 = true → v58 = (.slice p11 A_g.vals.length q12) := hF.1
    have h37_ : v54 = (Bo β3) := hF.2.1
    clear hF
    obtain rfl := h37_
    refine doesG_g (b := β3) rfl (yld rfl rfl) (fun hg1 => ?_) (fun hc => ⟨fun hg1 => absurd hg1 hc, Ext.refl _⟩)
    obtain rfl := h41_ hg1
    refine (does_len_slice Try.underlying25 (ev rfl)).mono ?_; rintro _ _ ⟨rfl, rfl⟩
    exact ⟨fun _ => rfl, Ext.refl _⟩
  refine RW_d _ rfl (fun v => by dsimp only [List.set]; try rfl) (fun u hu hF => ?_) (fun v60 => ?_)
  · have h37_ : v54 = (Bo β3) := hF.1
    clear hF
    obtain rfl := h37_
    refine doesG_g (b := β3) rfl (yld rfl rfl) (fun hg1 => ?_) (fun hc => ⟨fun hg1 => absurd hg1 hc, Ext.refl _⟩)
    refine (does_move (u := (Pt g_b g_o)) (ev rfl)).mono ?_; rintro _ _ ⟨rfl, rfl⟩
    exact ⟨fun _ => rfl, Ext.refl _⟩
  refine RW_d _ rfl (fun v => by dsimp only [List.set]; try rfl) (fun u hu hF => ?_) (fun v61 => ?_)
  · have h43_ : β3 = true → v60 = (Pt g_b g_o) := hF.1
    have h37_ : v54 = (Bo β3) := hF.2.1
    clear hF
    obtain rfl := h37_
    refine doesG_g (b := β3) rfl (yld rfl rfl) (fun hg1 => ?_) (fun hc => ⟨fun hg1 => absurd hg1 hc, Ext.refl _⟩)
    obtain rfl := h43_ hg1
    refine (does_nilCheck (ev rfl)).mono ?_; rintro _ _ ⟨rfl, rfl⟩
    exact ⟨fun _ => rfl, Ext.refl _⟩
  refine RW_d _ rfl (fun v => by dsimp only [List.set]; try rfl) (fun u hu hF => ?_) (fun v62 => ?_)
  · have h44_ : β3 = true → v61 = (Pt g_b g_o) := hF.1
    have h37_ : v54 = (Bo β3) := hF.2.1
    clear hF
    obtain rfl := h37_
    refine doesG_g (b := β3) rfl (yld rfl rfl) (fun hg1 => ?_) (fun hc => ⟨fun hg1 => absurd hg1 hc, Ext.refl _⟩)
    obtain rfl := h44_ hg1
    refine (does_fieldAddr (ev rfl) fa33_2).mono ?_; rintro _ _ ⟨rfl, rfl⟩
    exact ⟨fun _ => rfl, Ext.refl _⟩
  refine RW_d _ rfl (fun v => by dsimp only [List.set]; try rfl) (fun u hu hF => ?_) (fun v63 => ?_)
  · have h45_ : β3 = true → v62 = (Pt g_b (g_o + 4)) := hF.1
    have h37_ : v54 = (Bo β3) := hF.2.1
    clear hF
    obtain rfl := h37_
    refine doesG_g (b := β3) rfl (yld rfl rfl) (fun hg1 => ?_) (fun hc => ⟨fun hg1 => absurd hg1 hc, Ext.refl _⟩)
    obtain rfl := h45_ hg1
    refine (does_load (u := (Iv A_g.x)) (ev rfl) Try.isAgg2 (Cells.at ((hc_g.ext (Ext.gr (Ext.refl w) E17)).ext hu) 4 rfl)).mono ?_; rintro _ _ ⟨rfl, rfl⟩
    exact ⟨fun _ => rfl, Ext.refl _⟩
  refine RW_d _ rfl (fun v => by dsimp only [List.set]; try rfl) (fun u hu hF => ?_) (fun v64 => ?_)
  · have h37_ : v54 = (Bo β3) := hF.1
    clear hF
    obtain rfl := h37_
    refine doesG_g (b := β3) rfl (yld rfl rfl) (fun hg1 => ?_) (fun hc => ⟨fun hg1 => absurd hg1 hc, Ext.refl _⟩)
    refine (does_move (u := (Pt g_b g_o)) (ev rfl)).mono ?_; rintro _ _ ⟨rfl, rfl⟩
    exact ⟨fun _ => rfl, Ext.refl _⟩
  refine RW_d _ rfl (fun v => by dsimp only [List.set]; try rfl) (fun u hu hF => ?_) (fun v65 => ?_)
  · have h47_ : β3 = true → v64 = (Pt g_b g_o) := hF.1
    have h37_ : v54 = (Bo β3) := hF.2.1
    clear hF
    obtain rfl := h37_
    refine doesG_g (b := β3) rfl (yld rfl rfl) (fun hg1 => ?_) (fun hc => ⟨fun hg1 => absurd hg1 hc, Ext.refl _⟩)
    obtain rfl := h47_ hg1
    refine (does_nilCheck (ev rfl)).mono ?_; rintro _ _ ⟨rfl, rfl⟩
    exact ⟨fun _ => rfl, Ext.refl _⟩
  refine RW_d _ rfl (fun v => by dsimp only [List.set]; try rfl) (fun u hu hF => ?_) (fun v66 => ?_)
  · have h48_ : β3 = true → v65 = (Pt g_b g_o) := hF.1
    have h37_ : v54 = (Bo β3) := hF.2.1
    clear hF
    obtain rfl := h37_
    refine doesG_g (b := β3) rfl (yld rfl rfl) (fun hg1 => ?_) (fun hc => ⟨fun hg1 => absurd hg1 hc, Ext.refl _⟩)
    obtain rfl := h48_ hg1
    refine (does_fieldAddr (ev rfl) fa33_3).mono ?_; rintro _ _ ⟨rfl, rfl⟩
    exact ⟨fun _ => rfl, Ext.refl _⟩
  refine RW_d _ rfl (fun v => by dsimp only [List.set]; try rfl) (fun u hu hF => ?_) (fun v67 => ?_)
  · have h49_ : β3 = true → v66 = (Pt g_b (g_o + 5)) := hF.1
    have h37_ : v54 = (Bo β3) := hF.2.1
    clear hF
    obtain rfl := h37_
    refine doesG_g (b := β3) rfl (yld rfl rfl) (fun hg1 => ?_) (fun hc => ⟨fun hg1 => absurd hg1 hc, Ext.refl _⟩)
    obtain rfl := h49_ hg1
    refine (does_load (u := (Iv A_g.y)) (ev rfl) Try.isAgg2 (Cells.at ((hc_g.ext (Ext.gr (Ext.refl w) E17)).ext hu) 5 rfl)).mono ?_; rintro _ _ ⟨rfl, rfl⟩
    exact ⟨fun _ => rfl, Ext.refl _⟩
  refine RW_d _ rfl (fun v => by dsimp only [List.set]; try rfl) (fun u hu hF => ?_) (fun v68 => ?_)
  · have h46_ : β3 = true → v63 = (Iv A_g.x) := hF.1
    have h50_ : β3 = true → v67 = (Iv A_g.y) := hF.2.1
    have h37_ : v54 = (Bo β3) := hF.2.2.1
    clear hF
    obtain rfl := h37_
    refine doesG_g (b := β3) rfl (yld rfl rfl) (fun hg1 => ?_) (fun hc => ⟨fun hg1 => absurd hg1 hc, Ext.refl _⟩)
    obtain rfl := h46_ hg1
    obtain rfl := h50_ hg1
    refine (does_iarith (p := A_g.x) (q := A_g.y) (r := IntKind.i64.wrap (A_g.x * A_g.y)) (ev rfl) (ev rfl) (.inr (.inr ⟨rfl, rfl⟩))).mono ?_; rintro _ _ ⟨rfl, rfl⟩
    exact ⟨fun _ => rfl, Ext.refl _⟩
  refine RW_d _ rfl (fun v => by dsimp only [List.set]; try rfl) (fun u hu hF => ?_) (fun v69 => ?_)
  · have h37_ : v54 = (Bo β3) := hF.1
    clear hF
    obtain rfl := h37_
    refine doesG_g (b := β3) rfl (yld rfl rfl) (fun hg1 => ?_) (fun hc => ⟨fun hg1 => absurd hg1 hc, Ext.refl _⟩)
    refine (does_move (u := (Pt g_b g_o)) (ev rfl)).mono ?_; rintro _ _ ⟨rfl, rfl⟩
    exact ⟨fun _ => rfl, Ext.refl _⟩
  refine RW_d _ rfl (fun v => by dsimp only [List.set]; try rfl) (fun u hu hF => ?_) (fun v70 => ?_)
  · have h52_ : β3 = true → v69 = (Pt g_b g_o) := hF.1
    have h37_ : v54 = (Bo β3) := hF.2.1
    clear hF
    obtain rfl := h37_
    refine doesG_g (b := β3) rfl (yld rfl rfl) (fun hg1 => ?_) (fun hc => ⟨fun hg1 => absurd hg1 hc, Ext.refl _⟩)
    obtain rfl := h52_ hg1
    refine (does_nilCheck (ev rfl)).mono ?_; rintro _ _ ⟨rfl, rfl⟩
    exact ⟨fun _ => rfl, Ext.refl _⟩
  refine RW_d _ rfl (fun v => by dsimp only [List.set]; try rfl) (fun u hu hF => ?_) (fun v71 => ?_)
  · have h53_ : β3 = true → v70 = (Pt g_b g_o) := hF.1
    have h37_ : v54 = (Bo β3) := hF.2.1
    clear hF
    obtain rfl := h37_
    refine doesG_g (b := β3) rfl (yld rfl rfl) (fun hg1 => ?_) (fun hc => ⟨fun hg1 => absurd hg1 hc, Ext.refl _⟩)
    obtain rfl := h53_ hg1
    refine (does_fieldAddr (ev rfl) fa33_4).mono ?_; rintro _ _ ⟨rfl, rfl⟩
    exact ⟨fun _ => rfl, Ext.refl _⟩
  refine RW_d _ rfl (fun v => by dsimp only [List.set]; try rfl) (fun u hu hF => ?_) (fun v72 => ?_)
  · have h54_ : β3 = true → v71 = (Pt g_b (g_o + 6)) := hF.1
    have h37_ : v54 = (Bo β3) := hF.2.1
    clear hF
    obtain rfl := h37_
    refine doesG_g (b := β3) rfl (yld rfl rfl) (fun hg1 => ?_) (fun hc => ⟨fun hg1 => absurd hg1 hc, Ext.refl _⟩)
    obtain rfl := h54_ hg1
    refine (does_load (u := (Iv A_g.z)) (ev rfl) Try.isAgg2 (Cells.at ((hc_g.ext (Ext.gr (Ext.refl w) E17)).ext hu) 6 rfl)).mono ?_; rintro _ _ ⟨rfl, rfl⟩
    exact ⟨fun _ => rfl, Ext.refl _⟩
  refine RW_d _ rfl (fun v => by dsimp only [List.set]; try rfl) (fun u hu hF => ?_) (fun v73 => ?_)
  · have h51_ : β3 = true → v68 = (Iv (IntKind.i64.wrap (A_g.x * A_g.y))) := hF.1
    have h55_ : β3 = true → v72 = (Iv A_g.z) := hF.2.1
    have h37_ : v54 = (Bo β3) := hF.2.2.1
    clear hF
    obtain rfl := h37_
    refine doesG_g (b := β3) rfl (yld rfl rfl) (fun hg1 => ?_) (fun hc => ⟨fun hg1 => absurd hg1 hc, Ext.refl _⟩)
    obtain rfl := h51_ hg1
    obtain rfl := h55_ hg1
    refine (does_iarith (p := IntKind.i64.wrap (A_g.x * A_g.y)) (q := A_g.z) (r := IntKind.i64.wrap ((IntKind.i64.wrap (A_g.x * A_g.y)) * A_g.z)) (ev rfl) (ev rfl) (.inr (.inr ⟨rfl, rfl⟩))).mono ?_; rintro _ _ ⟨rfl, rfl⟩
    exact ⟨fun _ => rfl, Ext.refl _⟩
  refine RW_d _ rfl (fun v => by dsimp only [List.set]; try rfl) (fun u hu hF => ?_) (fun v74 => ?_)
  · have h42_ : β3 = true → v59 = (Iv (A_g.vals.length : Int)) := hF.1
    have h56_ : β3 = true → v73 = (Iv (IntKind.i64.wrap ((IntKind.i64.wrap (A_g.x * A_g.y)) * A_g.z))) := hF.2.1
    have h37_ : v54 = (Bo β3) := hF.2.2.1
    clear hF
    obtain rfl := h37_
    refine doesG_g (b := β3) rfl (yld rfl rfl) (fun hg1 => ?_) (fun hc => ⟨fun hg1 => absurd hg1 hc, Ext.refl _⟩)
    obtain rfl := h42_ hg1
    obtain rfl := h56_ hg1
    refine (does_icmp (p := (A_g.vals.length : Int)) (q := IntKind.i64.wrap ((IntKind.i64.wrap (A_g.x * A_g.y)) * A_g.z)) (.inl rfl) (ev rfl) (ev rfl)).mono ?_; rintro _ _ ⟨rfl, rfl⟩
    exact ⟨fun _ => (by first | rfl | (show _ = _; simp only [hβ4])), Ext.refl _⟩
  refine RW_d _ rfl (fun v => by dsimp only [List.set]; try rfl) (fun u hu hF => ?_) (fun v75 => ?_)
  · have h37_ : v54 = (Bo β3) := hF.1
    have h57_ : β3 = true → v74 = (Bo β4) := hF.2.1
    clear hF
    refine doesG_un rfl ?_
    skip
    obtain rfl := h37_
    refine (does_pick (b := β3) (ev rfl) (ev rfl) (ev rfl)).mono ?_; rintro _ _ ⟨rfl, rfl⟩; refine ⟨?_, Ext.refl _⟩; skip
    cases hbb : β3 <;> simp [hbb] at h57_ ⊢
    all_goals (first | rfl | (subst h57_; rfl) | simp_all)
  refine RW_fin ?_; intro w76 E77 hP78
  obtain ⟨⟨⟨⟨⟨⟨⟨⟨⟨⟨⟨⟨⟨⟨⟨⟨⟨⟨⟨⟨⟨⟨⟨⟨⟨⟨⟨⟨⟨⟨⟨⟨⟨⟨⟨⟨⟨⟨⟨⟨⟨⟨⟨⟨⟨⟨⟨⟨⟨⟨⟨⟨⟨⟨⟨⟨-, -⟩, -⟩, -⟩, -⟩, -⟩, -⟩, -⟩, -⟩, -⟩, -⟩, -⟩, -⟩, -⟩, -⟩, -⟩, -⟩, -⟩, -⟩, -⟩, -⟩, -⟩, -⟩, -⟩, -⟩, -⟩, -⟩, -⟩, -⟩, -⟩, -⟩, -⟩, -⟩, -⟩, -⟩, -⟩, -⟩, -⟩, -⟩, -⟩, -⟩, -⟩, -⟩, -⟩, -⟩, -⟩, -⟩, -⟩, -⟩, -⟩, -⟩, -⟩, -⟩, -⟩, -⟩, -⟩, q79⟩ := hP78
  have X80 := Ext.gr X19 E77
  have q79 : v75 = (Bo (β3 && β4)) := q79
  obtain rfl := q79
  show wpList _ _ _ _ (fr [(Pt g_b g_o), Ud, (Bo false), v20, v21, v22, v23, v24, v25, v26, v27, v28, v29, v30, v31, v32, v33, v34, v35, v36, v37, v38, v39, v40, v41, v42, v43, v44, v45, v46, v47, v48, v49, v50, v51, v52, v53, v54, v55, v56, v57, v58, v59, v60, v61, v62, v63, v64, v65, v66, v67, v68, v69, v70, v71, v72, v73, v74, (Bo (β3 && β4))]) _
  refine q_is rfl rfl (does_assign (u := (Bo (β3 && β4))) (ev rfl)) (by dsimp only [List.set]; try rfl) ?_
  refine wpList_nil (hK15 _ _ ?_)
  refine wp_ret ?_
  refine ret_val (v := (Bo (β3 && β4))) (res_T rfl (slot rfl)) X80 ?_
  have x81 : (isGrid A_g) = (β3 && β4) := by first | with_reducible rfl | (simp only [isGrid, prod3, posF, h2, h4, h6, h8, hβ1, hβ2, hβ3, hβ4]; done) | (simp [isGrid, prod3, posF, h2, h4, h6, h8, hβ1, hβ2, hβ3, hβ4]; done) | rfl
  exact (by first | rfl | rw [x81])

/- spec.l06Index -/
theorem c_spec_l06Index (g_b : Nat) (g_o : Nat) (g : List Value) (A_g : GridT) (x : Int) (y : Int) (z : Int) (w : World) (hc_g : Cells w g_b g_o g) (hv_g : RGridT w A_g g) : Gives Try.prog 32 #[(Pt g_b g_o), (Iv x), (Iv y), (Iv z)] w (fun v w' => v = (Iv (idxG A_g x y z))) := by
  obtain ⟨r1, r3, r5, r7, y9, rfl, h2, h4, h6, h8, h10⟩ := hv_g
  have hs13 := h10; have hs13l := Sl.len h10; obtain ⟨p11, q12, rfl⟩ := Sl.shape h10
  refine enter [(Pt g_b g_o), (Iv x), (Iv y), (Iv z), Ud, Ud, Ud, Ud, Ud, Ud, Ud, Ud, Ud, Ud, Ud, Ud, Ud, Ud, Ud, Ud, Ud, Ud, Ud, Ud] Try.func32 rfl Try.ntmps32 rfl ?_
  refine wp_seq_k fun K14 hK14 => ?_
  refine wp_region_lit ?_
  refine q_is rfl rfl (does_assign (u := (Iv 0)) (ev rfl)) (by dsimp only [List.set]; try rfl) ?_
  refine wpList_nil (hK14 _ _ ?_)
  refine wp_seq_k fun K15 hK15 => ?_
  refine region_draw (
    [Fact.pure [] (fun v => v = (Iv x)),
    Fact.pure [] (fun v => v = (Pt g_b g_o)),
    Fact.pure [10] (fun v => v = (Pt g_b g_o)),
    Fact.pure [11] (fun v => v = (Pt g_b (g_o + 4))),
    Fact.pure [12] (fun v => v = (Iv A_g.x)),
    Fact.pure [] (fun v => v = (Iv y)),
    Fact.pure [] (fun v => v = (Pt g_b g_o)),
    Fact.pure [15] (fun v => v = (Pt g_b g_o)),
    Fact.pure [16] (fun v => v = (Pt g_b (g_o + 5))),
    Fact.pure [17] (fun v => v = (Iv A_g.y)),
    Fact.pure [] (fun v => v = (Iv z)),
    Fact.pure [18, 19] (fun v => v = (Iv (IntKind.i64.wrap (A_g.y * z)))),
    Fact.pure [14, 20] (fun v => v = (Iv (IntKind.i64.wrap (y + (IntKind.i64.wrap (A_g.y * z)))))),
    Fact.pure [13, 21] (fun v => v = (Iv (IntKind.i64.wrap (A_g.x * (IntKind.i64.wrap (y + (IntKind.i64.wrap (A_g.y * z)))))))),
    Fact.pure [9, 22] (fun v => v = (Iv (IntKind.i64.wrap (x + (IntKind.i64.wrap (A_g.x * (IntKind.i64.wrap (y + (IntKind.i64.wrap (A_g.y * z))))))))))]) mixed (by kernel_rfl) (by intro _ _ d _ _ h; cases d <;> exact h) ?_
  obtain ⟨w16, hw18⟩ : ∃ w', w' = World.drew w := ⟨_, rfl⟩; rw [← hw18]; have E17 : Ext w w16 := by rw [hw18]; exact Ext.draw _
  clear hw18
  have X19 := Ext.gr (Ext.refl w) E17
  refine RW_d _ rfl (fun v => by dsimp only [List.set]; try rfl) (fun u hu hF => ?_) (fun v20 => ?_)
  · clear hF
    refine doesG_un rfl ?_
    refine (does_move (u := (Iv x)) (ev rfl)).mono ?_; rintro _ _ ⟨rfl, rfl⟩
    exact ⟨rfl, Ext.refl _⟩
  refine RW_d _ rfl (fun v => by dsimp only [List.set]; try rfl) (fun u hu hF => ?_) (fun v21 => ?_)
  · clear hF
    refine doesG_un rfl ?_
    refine (does_move (u := (Pt g_b g_o)) (ev rfl)).mono ?_; rintro _ _ ⟨rfl, rfl⟩
    exact ⟨rfl, Ext.refl _⟩
  refine RW_d _ rfl (fun v => by dsimp only [List.set]; try rfl) (fun u hu hF => ?_) (fun v22 => ?_)
  · have h10_ : v21 = (Pt g_b g_o) := hF.1
    clear hF
    refine doesG_un rfl ?_
    obtain rfl := h10_
    refine (does_nilCheck (ev rfl)).mono ?_; rintro _ _ ⟨rfl, rfl⟩
    exact ⟨rfl, Ext.refl _⟩
  refine RW_d _ rfl (fun v => by dsimp only [List.set]; try rfl) (fun u hu hF => ?_) (fun v23 => ?_)
  · have h11_ : v22 = (Pt g_b g_o) := hF.1
    clear hF
    refine doesG_un rfl ?_
    obtain rfl := h11_
    refine (does_fieldAddr (ev rfl) fa33_2).mono ?_; rintro _ _ ⟨rfl, rfl⟩
    exact ⟨rfl, Ext.refl _⟩
  refine RW_d _ rfl (fun v => by dsimp only [List.set]; try rfl) (fun u hu hF => ?_) (fun v24 => ?_)
  · have h12_ : v23 = (Pt g_b (g_o + 4)) := hF.1
    clear hF
    refine doesG_un rfl ?_
    obtain rfl := h12_
    refine (does_load (u := (Iv A_g.x)) (ev rfl) Try.isAgg2 (Cells.at ((hc_g.ext (Ext.gr (Ext.refl w) E17)).ext hu) 4 rfl)).mono ?_; rintro _ _ ⟨rfl, rfl⟩
    exact ⟨rfl, Ext.refl _⟩
  refine RW_d _ rfl (fun v => by dsimp only [List.set]; try rfl) (fun u hu hF => ?_) (fun v25 => ?_)
  · clear hF
    refine doesG_un rfl ?_
    refine (does_move (u := (Iv y)) (ev rfl)).mono ?_; rintro _ _ ⟨rfl, rfl⟩
    exact ⟨rfl, Ext.refl _⟩
  refine RW_d _ rfl (fun v => by dsimp only [List.set]; try rfl) (fun u hu hF => ?_) (fun v26 => ?_)
  · clear hF
    refine doesG_un rfl ?_
    refine (does_move (u := (Pt g_b g_o)) (ev rfl)).mono ?_; rintro _ _ ⟨rfl, rfl⟩
    exact ⟨rfl, Ext.refl _⟩
  refine RW_d _ rfl (fun v => by dsimp only [List.set]; try rfl) (fun u hu hF => ?_) (fun v27 => ?_)
  · have h15_ : v26 = (Pt g_b g_o) := hF.1
    clear hF
    refine doesG_un rfl ?_
    obtain rfl := h15_
    refine (does_nilCheck (ev rfl)).mono ?_; rintro _ _ ⟨rfl, rfl⟩
    exact ⟨rfl, Ext.refl _⟩
  refine RW_d _ rfl (fun v => by dsimp only [List.set]; try rfl) (fun u hu hF => ?_) (fun v28 => ?_)
  · have h16_ : v27 = (Pt g_b g_o) := hF.1
    clear hF
    refine doesG_un rfl ?_
    obtain rfl := h16_
    refine (does_fieldAddr (ev rfl) fa33_3).mono ?_; rintro _ _ ⟨rfl, rfl⟩
    exact ⟨rfl, Ext.refl _⟩
  refine RW_d _ rfl (fun v => by dsimp only [List.set]; try rfl) (fun u hu hF => ?_) (fun v29 => ?_)
  · have h17_ : v28 = (Pt g_b (g_o + 5)) := hF.1
    clear hF
    refine doesG_un rfl ?_
    obtain rfl := h17_
    refine (does_load (u := (Iv A_g.y)) (ev rfl) Try.isAgg2 (Cells.at ((hc_g.ext (Ext.gr (Ext.refl w) E17)).ext hu) 5 rfl)).mono ?_; rintro _ _ ⟨rfl, rfl⟩
    exact ⟨rfl, Ext.refl _⟩
  refine RW_d _ rfl (fun v => by dsimp only [List.set]; try rfl) (fun u hu hF => ?_) (fun v30 => ?_)
  · clear hF
    refine doesG_un rfl ?_
    refine (does_move (u := (Iv z)) (ev rfl)).mono ?_; rintro _ _ ⟨rfl, rfl⟩
    exact ⟨rfl, Ext.refl _⟩
  refine RW_d _ rfl (fun v => by dsimp only [List.set]; try rfl) (fun u hu hF => ?_) (fun v31 => ?_)
  · have h18_ : v29 = (Iv A_g.y) := hF.1
    have h19_ : v30 = (Iv z) := hF.2.1
    clear hF
    refine doesG_un rfl ?_
    obtain rfl := h18_
    obtain rfl := h19_
    refine (does_iarith (p := A_g.y) (q := z) (r := IntKind.i64.wrap (A_g.y * z)) (ev rfl) (ev rfl) (.inr (.inr ⟨rfl, rfl⟩))).mono ?_; rintro _ _ ⟨rfl, rfl⟩
    exact ⟨rfl, Ext.refl _⟩
  refine RW_d _ rfl (fun v => by dsimp only [List.set]; try rfl) (fun u hu hF => ?_) (fun v32 => ?_)
  · have h14_ : v25 = (Iv y) := hF.1
    have h20_ : v31 = (Iv (IntKind.i64.wrap (A_g.y * z))) := hF.2.1
    clear hF
    refine doesG_un rfl ?_
    obtain rfl := h14_
    obtain rfl := h20_
    refine (does_iarith (p := y) (q := IntKind.i64.wrap (A_g.y * z)) (r := IntKind.i64.wrap (y + (IntKind.i64.wrap (A_g.y * z)))) (ev rfl) (ev rfl) (.inl ⟨rfl, rfl⟩)).mono ?_; rintro _ _ ⟨rfl, rfl⟩
    exact ⟨rfl, Ext.refl _⟩
  refine RW_d _ rfl (fun v => by dsimp only [List.set]; try rfl) (fun u hu hF => ?_) (fun v33 => ?_)
  · have h13_ : v24 = (Iv A_g.x) := hF.1
    have h21_ : v32 = (Iv (IntKind.i64.wrap (y + (IntKind.i64.wrap (A_g.y * z))))) := hF.2.1
    clear hF
    refine doesG_un rfl ?_
    obtain rfl := h13_
    obtain rfl := h21_
    refine (does_iarith (p := A_g.x) (q := IntKind.i64.wrap (y + (IntKind.i64.wrap (A_g.y * z)))) (r := IntKind.i64.wrap (A_g.x * (IntKind.i64.wrap (y + (IntKind.i64.wrap (A_g.y * z)))))) (ev rfl) (ev rfl) (.inr (.inr ⟨rfl, rfl⟩))).mono ?_; rintro _ _ ⟨rfl, rfl⟩
    exact ⟨rfl, Ext.refl _⟩
  refine RW_d _ rfl (fun v => by dsimp only [List.set]; try rfl) (fun u hu hF => ?_) (fun v34 => ?_)
  · have h9_ : v20 = (Iv x) := hF.1
    have h22_ : v33 = (Iv (IntKind.i64.wrap (A_g.x * (IntKind.i64.wrap (y + (IntKind.i64.wrap (A_g.y * z))))))) := hF.2.1
    clear hF
    refine doesG_un rfl ?_
    obtain rfl := h9_
    obtain rfl := h22_
    refine (does_iarith (p := x) (q := IntKind.i64.wrap (A_g.x * (IntKind.i64.wrap (y + (IntKind.i64.wrap (A_g.y * z)))))) (r := IntKind.i64.wrap (x + (IntKind.i64.wrap (A_g.x * (IntKind.i64.wrap (y + (IntKind.i64.wrap (A_g.y * z)))))))) (ev rfl) (ev rfl) (.inl ⟨rfl, rfl⟩)).mono ?_; rintro _ _ ⟨rfl, rfl⟩
    exact ⟨rfl, Ext.refl _⟩
  refine RW_fin ?_; intro w35 E36 hP37
  obtain ⟨⟨⟨⟨⟨⟨⟨⟨⟨⟨⟨⟨⟨⟨⟨-, -⟩, -⟩, -⟩, -⟩, -⟩, -⟩, -⟩, -⟩, -⟩, -⟩, -⟩, -⟩, -⟩, -⟩, q38⟩ := hP37
  have X39 := Ext.gr X19 E36
  have q38 : v34 = (Iv (IntKind.i64.wrap (x + (IntKind.i64.wrap (A_g.x * (IntKind.i64.wrap (y + (IntKind.i64.wrap (A_g.y * z))))))))) := q38
  obtain rfl := q38
  show wpList _ _ _ _ (fr [(Pt g_b g_o), (Iv x), (Iv y), (Iv z), Ud, Ud, Ud, Ud, (Iv 0), v20, v21, v22, v23, v24, v25, v26, v27, v28, v29, v30, v31, v32, v33, (Iv (IntKind.i64.wrap (x + (IntKind.i64.wrap (A_g.x * (IntKind.i64.wrap (y + (IntKind.i64.wrap (A_g.y * z)))))))))]) _
  refine q_is rfl rfl (does_assign (u := (Iv (IntKind.i64.wrap (x + (IntKind.i64.wrap (A_g.x * (IntKind.i64.wrap (y + (IntKind.i64.wrap (A_g.y * z)))))))))) (ev rfl)) (by dsimp only [List.set]; try rfl) ?_
  refine wpList_nil (hK15 _ _ ?_)
  refine wp_ret ?_
  refine ret_val (v := (Iv (IntKind.i64.wrap (x + (IntKind.i64.wrap (A_g.x * (IntKind.i64.wrap (y + (IntKind.i64.wrap (A_g.y * z)))))))))) (res_T rfl (slot rfl)) X39 ?_
  have x40 : (idxG A_g x y z : Int) = (IntKind.i64.wrap (x + (IntKind.i64.wrap (A_g.x * (IntKind.i64.wrap (y + (IntKind.i64.wrap (A_g.y * z)))))))) := by first | with_reducible rfl | (simp only [idxG, h2, h4, h6, h8]; done) | (simp [idxG, h2, h4, h6, h8]; done) | rfl
  exact (by first | rfl | rw [x40])

end Go.Proofs.Ytlpgjgombdcheaa
