/- contracts of functions, each walked once -/
import Derived.Test.YtffmjlalacnfiaaTy
import Derived.Test.YtffmjlalacnfiaaUni
import Derived.Test.YtffmjlalacnfiaaOwn
import Derived.Test.YtffmjlalacnfiaaTak
namespace Go.Proofs.Ytffmjlalacnfiaa
open Go Go.RowKit
set_option maxRecDepth 100000
set_option maxHeartbeats 3200000
set_option linter.unusedVariables false
set_option linter.unusedSimpArgs false

/- laws.szFloat32S -/
theorem c_laws_szFloat32S (a : Value) (L_a : List Nat) (left : Int) (w : World) (hv_a : Sl RF 1 w a L_a) (hle : left ≤ 1048576) (hge : 0 ≤ left) : Gives Try.prog 23 #[a, (Iv left)] w (fun v w' => ∃ i_1 : Int, v = (Iv i_1) ∧ (i_1 < 0 ∨ ((L_a.length : Int) ≤ left ∧ i_1 = left - L_a.length ∧ 0 ≤ i_1))) := by
  have hlen_a := Sl.len hv_a; obtain ⟨p_a, q_a, rfl⟩ := Sl.shape hv_a
  refine enter [(.slice p_a L_a.length q_a), (Iv left), Ud, Ud, Ud, Ud, Ud, Ud, Ud, Ud, Ud, Ud] Try.func23 rfl Try.ntmps23 rfl ?_
  refine wp_seq_k fun K1 hK1 => ?_
  refine wp_region_lit ?_
  refine q_is (l' := [(.slice p_a L_a.length q_a), (Iv left), Ud, Ud, (Iv 0), Ud, Ud, Ud, Ud, Ud, Ud, Ud]) rfl rfl (does_assign (u := (Iv 0)) (ev rfl)) rfl ?_
  refine wpList_nil (hK1 _ _ ?_)
  refine wp_seq_k fun K2 hK2 => ?_
  refine wp_region_lit ?_
  refine q_is (l' := [(.slice p_a L_a.length q_a), (Iv left), Ud, Ud, (Iv 0), (Iv left), Ud, Ud, Ud, Ud, Ud, Ud]) rfl rfl (does_move (u := (Iv left)) (ev rfl)) rfl ?_
  refine q_is (l' := [(.slice p_a L_a.length q_a), (Iv left), Ud, Ud, (Iv 0), (Iv left), (.slice p_a L_a.length q_a), Ud, Ud, Ud, Ud, Ud]) rfl rfl (does_move (u := (.slice p_a L_a.length q_a)) (ev rfl)) rfl ?_
  refine q_is (l' := [(.slice p_a L_a.length q_a), (Iv left), Ud, Ud, (Iv 0), (Iv left), (.slice p_a L_a.length q_a), (Iv (L_a.length : Int)), Ud, Ud, Ud, Ud]) rfl rfl (does_len_slice Try.underlying25 (ev rfl)) rfl ?_
  refine q_is (l' := [(.slice p_a L_a.length q_a), (Iv left), Ud, Ud, (Iv 0), (Iv left), (.slice p_a L_a.length q_a), (Iv (L_a.length : Int)), (Iv (left - (L_a.length : Int))), Ud, Ud, Ud]) rfl rfl (does_iarith (p := left) (q := (L_a.length : Int)) (r := left - (L_a.length : Int)) (ev rfl) (ev rfl) (.inr (.inl ⟨rfl, (in_i64 (by omega) (by omega)).symm⟩))) rfl ?_
  refine q_is (l' := [(.slice p_a L_a.length q_a), (Iv (left - (L_a.length : Int))), Ud, Ud, (Iv 0), (Iv left), (.slice p_a L_a.length q_a), (Iv (L_a.length : Int)), (Iv (left - (L_a.length : Int))), Ud, Ud, Ud]) rfl rfl (does_assign (u := (Iv (left - (L_a.length : Int)))) (ev rfl)) rfl ?_
  refine wpList_nil (hK2 _ _ ?_)
  refine wp_seq_k fun K3 hK3 => ?_
  refine wp_seq_k fun K4 hK4 => ?_
  refine wp_region_lit ?_
  refine q_is (l' := [(.slice p_a L_a.length q_a), (Iv (left - (L_a.length : Int))), Ud, Ud, (Iv 0), (Iv left), (.slice p_a L_a.length q_a), (Iv (L_a.length : Int)), (Iv (left - (L_a.length : Int))), (Iv (left - (L_a.length : Int))), Ud, Ud]) rfl rfl (does_move (u := (Iv (left - (L_a.length : Int)))) (ev rfl)) rfl ?_
  refine q_is (l' := [(.slice p_a L_a.length q_a), (Iv (left - (L_a.length : Int))), Ud, Ud, (Iv 0), (Iv left), (.slice p_a L_a.length q_a), (Iv (L_a.length : Int)), (Iv (left - (L_a.length : Int))), (Iv (left - (L_a.length : Int))), (Bo (icmp .lss (left - (L_a.length : Int)) 0)), Ud]) rfl rfl (does_icmp (p := left - (L_a.length : Int)) (q := 0) (.inr (.inr (.inl rfl))) (ev rfl) (ev rfl)) rfl ?_
  refine wpList_nil (hK4 _ _ ?_)
  refine wp_cond_split (t := icmp .lss (left - (L_a.length : Int)) 0) (ev rfl) (fun c5 => ?_) (fun c5 => ?_)
  · have c5' := c5
    (try simp only [icmp, Bool.and_eq_true, Bool.or_eq_true, Bool.and_eq_false_iff, Bool.or_eq_false_iff, Bool.not_eq_true', Bool.not_eq_false', decide_eq_true_eq, decide_eq_false_iff_not, beq_iff_eq, bne_iff_ne, beq_eq_false_iff_ne, bne_eq_false_iff_eq] at c5')
    refine wp_seq_k fun K6 hK6 => ?_
    refine wp_region_lit ?_
    refine q_is (l' := [(.slice p_a L_a.length q_a), (Iv (left - (L_a.length : Int))), Ud, Ud, (Iv (-1)), (Iv left), (.slice p_a L_a.length q_a), (Iv (L_a.length : Int)), (Iv (left - (L_a.length : Int))), (Iv (left - (L_a.length : Int))), (Bo (icmp .lss (left - (L_a.length : Int)) 0)), Ud]) rfl rfl (does_assign (u := (Iv (-1))) (ev rfl)) rfl ?_
    refine wpList_nil (hK6 _ _ ?_)
    refine wp_ret ?_
    dsimp only [Exit.then, Exit.inBlock]
    refine ret_val (v := (Iv (-1))) (res_T rfl (slot rfl)) (Ext.refl w) ?_
    have x7 : (-1) < 0 ∨ ((L_a.length : Int) ≤ left ∧ (-1) = left - L_a.length ∧ 0 ≤ (-1)) := by omega
    exact ⟨(-1), rfl, x7⟩
  have c5' := c5
  (try simp only [icmp, Bool.and_eq_true, Bool.or_eq_true, Bool.and_eq_false_iff, Bool.or_eq_false_iff, Bool.not_eq_true', Bool.not_eq_false', decide_eq_true_eq, decide_eq_false_iff_not, beq_iff_eq, bne_iff_ne, beq_eq_false_iff_ne, bne_eq_false_iff_eq] at c5')
  refine wp_skip (hK3 _ _ ?_)
  refine wp_seq_k fun K8 hK8 => ?_
  refine wp_region_lit ?_
  refine q_is (l' := [(.slice p_a L_a.length q_a), (Iv (left - (L_a.length : Int))), Ud, Ud, (Iv 0), (Iv left), (.slice p_a L_a.length q_a), (Iv (L_a.length : Int)), (Iv (left - (L_a.length : Int))), (Iv (left - (L_a.length : Int))), (Bo (icmp .lss (left - (L_a.length : Int)) 0)), (Iv (left - (L_a.length : Int)))]) rfl rfl (does_move (u := (Iv (left - (L_a.length : Int)))) (ev rfl)) rfl ?_
  refine q_is (l' := [(.slice p_a L_a.length q_a), (Iv (left - (L_a.length : Int))), Ud, Ud, (Iv (left - (L_a.length : Int))), (Iv left), (.slice p_a L_a.length q_a), (Iv (L_a.length : Int)), (Iv (left - (L_a.length : Int))), (Iv (left - (L_a.length : Int))), (Bo (icmp .lss (left - (L_a.length : Int)) 0)), (Iv (left - (L_a.length : Int)))]) rfl rfl (does_assign (u := (Iv (left - (L_a.length : Int)))) (ev rfl)) rfl ?_
  refine wpList_nil (hK8 _ _ ?_)
  refine wp_ret ?_
  refine ret_val (v := (Iv (left - (L_a.length : Int)))) (res_T rfl (slot rfl)) (Ext.refl w) ?_
  have x9 : (left - (L_a.length : Int)) < 0 ∨ ((L_a.length : Int) ≤ left ∧ (left - (L_a.length : Int)) = left - L_a.length ∧ 0 ≤ (left - (L_a.length : Int))) := by omega
  exact ⟨(left - (L_a.length : Int)), rfl, x9⟩

/- laws.szGrid -/
theorem c_laws_szGrid (a : List Value) (A_a : GridT) (left : Int) (w : World) (hv_a : RGridT w A_a a) (hle : left ≤ 1048576) (hge : 0 ≤ left) : Gives Try.prog 7 #[(.agg a.toArray), (Iv left)] w (fun v w' => ∃ i_1 : Int, v = (Iv i_1) ∧ (i_1 < 0 ∨ ((A_a.vals.length : Int) ≤ left ∧ i_1 = left - A_a.vals.length ∧ 0 ≤ i_1))) := by
  obtain ⟨r1, r3, r5, r7, y9, rfl, h2, h4, h6, h8, h10⟩ := hv_a
  have hs13 := h10; have hs13l := Sl.len h10; obtain ⟨p11, q12, rfl⟩ := Sl.shape h10
  refine enter [(.agg #[(Fl r1), (Fl r3), (Fl r5), (Fl r7), (Iv A_a.x), (Iv A_a.y), (Iv A_a.z), (.slice p11 A_a.vals.length q12)]), (Iv left), Ud, Ud, Ud, Ud, Ud, Ud, Ud, Ud, Ud, Ud] Try.func7 rfl Try.ntmps7 rfl ?_
  refine wp_seq_k fun K14 hK14 => ?_
  refine wp_region_lit ?_
  refine seqd rfl rfl (does_box (u := (.agg #[(Fl r1), (Fl r3), (Fl r5), (Fl r7), (Iv A_a.x), (Iv A_a.y), (Iv A_a.z), (.slice p11 A_a.vals.length q12)])) (ev rfl)) ?_; rintro _ w19 ⟨b15, rfl, hb16, hB17, E18⟩
  have g20 : w.heap.size ≤ b15 := Nat.le_trans (Below.size (Ext.refl w)) hb16
  change Blk _ _ [(Fl r1), (Fl r3), (Fl r5), (Fl r7), (Iv A_a.x), (Iv A_a.y), (Iv A_a.z), (.slice p11 A_a.vals.length q12)] at hB17
  have X21 := Ext.gr (Ext.refl w) E18
  show wpList _ _ _ _ (fr [(.agg #[(Fl r1), (Fl r3), (Fl r5), (Fl r7), (Iv A_a.x), (Iv A_a.y), (Iv A_a.z), (.slice p11 A_a.vals.length q12)]), (Iv left), (Pt b15 0), Ud, Ud, Ud, Ud, Ud, Ud, Ud, Ud, Ud]) _
  refine q_is (l' := [(.agg #[(Fl r1), (Fl r3), (Fl r5), (Fl r7), (Iv A_a.x), (Iv A_a.y), (Iv A_a.z), (.slice p11 A_a.vals.length q12)]), (Iv left), (Pt b15 0), Ud, (Iv 0), Ud, Ud, Ud, Ud, Ud, Ud, Ud]) rfl rfl (does_assign (u := (Iv 0)) (ev rfl)) rfl ?_
  refine wpList_nil (hK14 _ _ ?_)
  refine wp_seq_k fun K22 hK22 => ?_
  refine wp_region_lit ?_
  refine q_is (l' := [(.agg #[(Fl r1), (Fl r3), (Fl r5), (Fl r7), (Iv A_a.x), (Iv A_a.y), (Iv A_a.z), (.slice p11 A_a.vals.length q12)]), (Iv left), (Pt b15 0), Ud, (Iv 0), (Pt b15 7), Ud, Ud, Ud, Ud, Ud, Ud]) rfl rfl (does_fieldAddr (ev rfl) fa27_5) rfl ?_
  refine q_is (l' := [(.agg #[(Fl r1), (Fl r3), (Fl r5), (Fl r7), (Iv A_a.x), (Iv A_a.y), (Iv A_a.z), (.slice p11 A_a.vals.length q12)]), (Iv left), (Pt b15 0), Ud, (Iv 0), (Pt b15 7), (.slice p11 A_a.vals.length q12), Ud, Ud, Ud, Ud, Ud]) rfl rfl (does_load (u := (.slice p11 A_a.vals.length q12)) (ev rfl) Try.isAgg25 (Cells.at (Blk.cells hB17) 7 rfl)) rfl ?_
  refine q_is (l' := [(.agg #[(Fl r1), (Fl r3), (Fl r5), (Fl r7), (Iv A_a.x), (Iv A_a.y), (Iv A_a.z), (.slice p11 A_a.vals.length q12)]), (Iv left), (Pt b15 0), Ud, (Iv 0), (Pt b15 7), (.slice p11 A_a.vals.length q12), (Iv left), Ud, Ud, Ud, Ud]) rfl rfl (does_move (u := (Iv left)) (ev rfl)) rfl ?_
  refine seqd rfl rfl (does_call (args := #[(.slice p11 A_a.vals.length q12), (Iv left)]) cal23 (evs rfl) (c_laws_szFloat32S (.slice p11 A_a.vals.length q12) A_a.vals left _ (Sl.ext hs13 RF.mono X21) (by omega) (by omega))) ?_; rintro _ w24 ⟨E23, ⟨i25, rfl, h26⟩⟩
  have X27 := Ext.gr X21 E23
  show wpList _ _ _ _ (fr [(.agg #[(Fl r1), (Fl r3), (Fl r5), (Fl r7), (Iv A_a.x), (Iv A_a.y), (Iv A_a.z), (.slice p11 A_a.vals.length q12)]), (Iv left), (Pt b15 0), Ud, (Iv 0), (Pt b15 7), (.slice p11 A_a.vals.length q12), (Iv left), (Iv i25), Ud, Ud, Ud]) _
  refine q_is (l' := [(.agg #[(Fl r1), (Fl r3), (Fl r5), (Fl r7), (Iv A_a.x), (Iv A_a.y), (Iv A_a.z), (.slice p11 A_a.vals.length q12)]), (Iv i25), (Pt b15 0), Ud, (Iv 0), (Pt b15 7), (.slice p11 A_a.vals.length q12), (Iv left), (Iv i25), Ud, Ud, Ud]) rfl rfl (does_assign (u := (Iv i25)) (ev rfl)) rfl ?_
  refine wpList_nil (hK22 _ _ ?_)
  refine wp_seq_k fun K28 hK28 => ?_
  refine wp_seq_k fun K29 hK29 => ?_
  refine wp_region_lit ?_
  refine q_is (l' := [(.agg #[(Fl r1), (Fl r3), (Fl r5), (Fl r7), (Iv A_a.x), (Iv A_a.y), (Iv A_a.z), (.slice p11 A_a.vals.length q12)]), (Iv i25), (Pt b15 0), Ud, (Iv 0), (Pt b15 7), (.slice p11 A_a.vals.length q12), (Iv left), (Iv i25), (Iv i25), Ud, Ud]) rfl rfl (does_move (u := (Iv i25)) (ev rfl)) rfl ?_
  refine q_is (l' := [(.agg #[(Fl r1), (Fl r3), (Fl r5), (Fl r7), (Iv A_a.x), (Iv A_a.y), (Iv A_a.z), (.slice p11 A_a.vals.length q12)]), (Iv i25), (Pt b15 0), Ud, (Iv 0), (Pt b15 7), (.slice p11 A_a.vals.length q12), (Iv left), (Iv i25), (Iv i25), (Bo (icmp .lss i25 0)), Ud]) rfl rfl (does_icmp (p := i25) (q := 0) (.inr (.inr (.inl rfl))) (ev rfl) (ev rfl)) rfl ?_
  refine wpList_nil (hK29 _ _ ?_)
  refine wp_cond_split (t := icmp .lss i25 0) (ev rfl) (fun c30 => ?_) (fun c30 => ?_)
  · have c30' := c30
    (try simp only [icmp, Bool.and_eq_true, Bool.or_eq_true, Bool.and_eq_false_iff, Bool.or_eq_false_iff, Bool.not_eq_true', Bool.not_eq_false', decide_eq_true_eq, decide_eq_false_iff_not, beq_iff_eq, bne_iff_ne, beq_eq_false_iff_ne, bne_eq_false_iff_eq] at c30')
    refine wp_seq_k fun K31 hK31 => ?_
    refine wp_region_lit ?_
    refine q_is (l' := [(.agg #[(Fl r1), (Fl r3), (Fl r5), (Fl r7), (Iv A_a.x), (Iv A_a.y), (Iv A_a.z), (.slice p11 A_a.vals.length q12)]), (Iv i25), (Pt b15 0), Ud, (Iv (-1)), (Pt b15 7), (.slice p11 A_a.vals.length q12), (Iv left), (Iv i25), (Iv i25), (Bo (icmp .lss i25 0)), Ud]) rfl rfl (does_assign (u := (Iv (-1))) (ev rfl)) rfl ?_
    refine wpList_nil (hK31 _ _ ?_)
    refine wp_ret ?_
    dsimp only [Exit.then, Exit.inBlock]
    refine ret_val (v := (Iv (-1))) (res_T rfl (slot rfl)) X27 ?_
    try simp only [h2, h4, h6, h8] at c30
    have x32 : (-1) < 0 ∨ ((A_a.vals.length : Int) ≤ left ∧ (-1) = left - A_a.vals.length ∧ 0 ≤ (-1)) := by omega
    exact ⟨(-1), rfl, x32⟩
  have c30' := c30
  (try simp only [icmp, Bool.and_eq_true, Bool.or_eq_true, Bool.and_eq_false_iff, Bool.or_eq_false_iff, Bool.not_eq_true', Bool.not_eq_false', decide_eq_true_eq, decide_eq_false_iff_not, beq_iff_eq, bne_iff_ne, beq_eq_false_iff_ne, bne_eq_false_iff_eq] at c30')
  refine wp_skip (hK28 _ _ ?_)
  refine wp_seq_k fun K33 hK33 => ?_
  refine wp_region_lit ?_
  refine q_is (l' := [(.agg #[(Fl r1), (Fl r3), (Fl r5), (Fl r7), (Iv A_a.x), (Iv A_a.y), (Iv A_a.z), (.slice p11 A_a.vals.length q12)]), (Iv i25), (Pt b15 0), Ud, (Iv 0), (Pt b15 7), (.slice p11 A_a.vals.length q12), (Iv left), (Iv i25), (Iv i25), (Bo (icmp .lss i25 0)), (Iv i25)]) rfl rfl (does_move (u := (Iv i25)) (ev rfl)) rfl ?_
  refine q_is (l' := [(.agg #[(Fl r1), (Fl r3), (Fl r5), (Fl r7), (Iv A_a.x), (Iv A_a.y), (Iv A_a.z), (.slice p11 A_a.vals.length q12)]), (Iv i25), (Pt b15 0), Ud, (Iv i25), (Pt b15 7), (.slice p11 A_a.vals.length q12), (Iv left), (Iv i25), (Iv i25), (Bo (icmp .lss i25 0)), (Iv i25)]) rfl rfl (does_assign (u := (Iv i25)) (ev rfl)) rfl ?_
  refine wpList_nil (hK33 _ _ ?_)
  refine wp_ret ?_
  refine ret_val (v := (Iv i25)) (res_T rfl (slot rfl)) X27 ?_
  try simp only [h2, h4, h6, h8] at c30
  have x34 : i25 < 0 ∨ ((A_a.vals.length : Int) ≤ left ∧ i25 = left - A_a.vals.length ∧ 0 ≤ i25) := by omega
  exact ⟨i25, rfl, x34⟩

/- spec.l01Finite -/
theorem c_spec_l01Finite (x : Nat) (w : World) : Gives Try.prog 48 #[(Fl x)] w (fun v w' => v = (Bo (finF (cf .f32 x)))) := by
  refine enter [(Fl x), Ud, Ud, Ud, Ud, Ud, Ud] Try.func48 rfl Try.ntmps48 rfl ?_
  refine wp_seq_k fun K1 hK1 => ?_
  refine wp_region_lit ?_
  refine q_is (l' := [(Fl x), Ud, (Bo false), Ud, Ud, Ud, Ud]) rfl rfl (does_assign (u := (Bo false)) (ev rfl)) rfl ?_
  refine wpList_nil (hK1 _ _ ?_)
  refine wp_seq_k fun K2 hK2 => ?_
  refine wp_region_lit ?_
  refine q_is (l' := [(Fl x), Ud, (Bo false), (Fl x), Ud, Ud, Ud]) rfl rfl (does_move (u := (Fl x)) (ev rfl)) rfl ?_
  refine q_is (l' := [(Fl x), Ud, (Bo false), (Fl x), (Fl x), Ud, Ud]) rfl rfl (does_move (u := (Fl x)) (ev rfl)) rfl ?_
  refine seqd rfl rfl (does_float (.inr (.inl rfl)) (ev rfl) (ev rfl)) ?_; rintro _ w6 ⟨r3, rfl, h4, E5⟩
  have X7 := Ext.gr (Ext.refl w) E5
  show wpList _ _ _ _ (fr [(Fl x), Ud, (Bo false), (Fl x), (Fl x), (Fl r3), Ud]) _
  refine q_is (l' := [(Fl x), Ud, (Bo false), (Fl x), (Fl x), (Fl r3), (Bo (fcmp .eql (ford .f32 (cf .f32 r3) (cf .f32 0))))]) rfl rfl (does_fcmp (.inl rfl) (ev rfl) (ev rfl)) rfl ?_
  refine q_is (l' := [(Fl x), Ud, (Bo (fcmp .eql (ford .f32 (cf .f32 r3) (cf .f32 0)))), (Fl x), (Fl x), (Fl r3), (Bo (fcmp .eql (ford .f32 (cf .f32 r3) (cf .f32 0))))]) rfl rfl (does_assign (u := (Bo (fcmp .eql (ford .f32 (cf .f32 r3) (cf .f32 0))))) (ev rfl)) rfl ?_
  refine wpList_nil (hK2 _ _ ?_)
  refine wp_ret ?_
  refine ret_val (v := (Bo (fcmp .eql (ford .f32 (cf .f32 r3) (cf .f32 0))))) (res_T rfl (slot rfl)) X7 ?_
  have x8 : (finF (cf .f32 x)) = (fcmp .eql (ford .f32 (cf .f32 r3) (cf .f32 0))) := by first | with_reducible rfl | (simp only [finF, h4]; done) | (simp [finF, h4]; done) | rfl
  exact (by first | rfl | rw [x8])

/- spec.l01VFinite -/
theorem c_spec_l01VFinite (v : List Value) (A_v : V3) (w : World) (hv_v : RV3 w A_v v) : Gives Try.prog 47 #[(.agg v.toArray)] w (fun v w' => v = (Bo (finV A_v))) := by
  obtain ⟨r1, r3, r5, rfl, h2, h4, h6⟩ := hv_v
  refine enter [(.agg #[(Fl r1), (Fl r3), (Fl r5)]), Ud, Ud, Ud, Ud, Ud, Ud, Ud, Ud, Ud, Ud, Ud, Ud, Ud, Ud, Ud] Try.func47 rfl Try.ntmps47 rfl ?_
  refine wp_seq_k fun K7 hK7 => ?_
  refine wp_region_lit ?_
  refine seqd rfl rfl (does_box (u := (.agg #[(Fl r1), (Fl r3), (Fl r5)])) (ev rfl)) ?_; rintro _ w12 ⟨b8, rfl, hb9, hB10, E11⟩
  have g13 : w.heap.size ≤ b8 := Nat.le_trans (Below.size (Ext.refl w)) hb9
  change Blk _ _ [(Fl r1), (Fl r3), (Fl r5)] at hB10
  have X14 := Ext.gr (Ext.refl w) E11
  show wpList _ _ _ _ (fr [(.agg #[(Fl r1), (Fl r3), (Fl r5)]), (Pt b8 0), Ud, Ud, Ud, Ud, Ud, Ud, Ud, Ud, Ud, Ud, Ud, Ud, Ud, Ud]) _
  refine q_is (l' := [(.agg #[(Fl r1), (Fl r3), (Fl r5)]), (Pt b8 0), (Bo false), Ud, Ud, Ud, Ud, Ud, Ud, Ud, Ud, Ud, Ud, Ud, Ud, Ud]) rfl rfl (does_assign (u := (Bo false)) (ev rfl)) rfl ?_
  refine wpList_nil (hK7 _ _ ?_)
  refine wp_seq_k fun K15 hK15 => ?_
  obtain ⟨β1, hβ1⟩ : ∃ b : Bool, b = ((finF (cf .f32 r1)) && (finF (cf .f32 r3))) := ⟨_, rfl⟩
  obtain ⟨β2, hβ2⟩ : ∃ b : Bool, b = (β1 && (finF (cf .f32 r5))) := ⟨_, rfl⟩
  refine region_text (
    [Fact.pure [] (fun v => v = (Pt b8 0)),
    Fact.pure [3] (fun v => v = (Fl r1)),
    Fact.pure [4] (fun v => v = (Bo (finF (cf .f32 r1)))),
    Fact.pure [5] (fun v => v = (Bo (finF (cf .f32 r1)))),
    Fact.pure [6] (fun v => (finF (cf .f32 r1)) = true → v = (Pt b8 1)),
    Fact.pure [7, 6] (fun v => (finF (cf .f32 r1)) = true → v = (Fl r3)),
    Fact.pure [8, 6] (fun v => (finF (cf .f32 r1)) = true → v = (Bo (finF (cf .f32 r3)))),
    Fact.pure [6, 9] (fun v => v = (Bo β1)),
    Fact.pure [10] (fun v => v = (Bo β1)),
    Fact.pure [11] (fun v => β1 = true → v = (Pt b8 2)),
    Fact.pure [12, 11] (fun v => β1 = true → v = (Fl r5)),
    Fact.pure [13, 11] (fun v => β1 = true → v = (Bo (finF (cf .f32 r5)))),
    Fact.pure [11, 14] (fun v => v = (Bo β2))]) (by simp [Fact.pure, Fact.mem]) ?_
  refine RW_d (fun v16 => [(.agg #[(Fl r1), (Fl r3), (Fl r5)]), (Pt b8 0), (Bo false), v16, Ud, Ud, Ud, Ud, Ud, Ud, Ud, Ud, Ud, Ud, Ud, Ud]) rfl (fun _ => rfl) (fun u hu hF => ?_) (fun v16 => ?_)
  · clear hF
    refine doesG_un rfl ?_
    refine (does_fieldAddr (ev rfl) fa29_0).mono ?_; rintro _ _ ⟨rfl, rfl⟩
    exact ⟨rfl, Ext.refl _⟩
  refine RW_d (fun v17 => [(.agg #[(Fl r1), (Fl r3), (Fl r5)]), (Pt b8 0), (Bo false), v16, v17, Ud, Ud, Ud, Ud, Ud, Ud, Ud, Ud, Ud, Ud, Ud]) rfl (fun _ => rfl) (fun u hu hF => ?_) (fun v17 => ?_)
  · have h3_ : v16 = (Pt b8 0) := hF.1
    clear hF
    refine doesG_un rfl ?_
    obtain rfl := h3_
    refine (does_load (u := (Fl r1)) (ev rfl) Try.isAgg22 (Cells.at (Blk.cells (hB10.ext hu)) 0 rfl)).mono ?_; rintro _ _ ⟨rfl, rfl⟩
    exact ⟨rfl, Ext.refl _⟩
  refine RW_d (fun v18 => [(.agg #[(Fl r1), (Fl r3), (Fl r5)]), (Pt b8 0), (Bo false), v16, v17, v18, Ud, Ud, Ud, Ud, Ud, Ud, Ud, Ud, Ud, Ud]) rfl (fun _ => rfl) (fun u hu hF => ?_) (fun v18 => ?_)
  · have h4_ : v17 = (Fl r1) := hF.1
    clear hF
    refine doesG_un rfl ?_
    obtain rfl := h4_
    refine (does_call (args := #[(Fl r1)]) cal48 (evs rfl) (c_spec_l01Finite r1 _)).mono ?_; rintro v u' ⟨hx, hv⟩
    exact ⟨hv, hx⟩
  refine RW_d (fun v19 => [(.agg #[(Fl r1), (Fl r3), (Fl r5)]), (Pt b8 0), (Bo false), v16, v17, v18, v19, Ud, Ud, Ud, Ud, Ud, Ud, Ud, Ud, Ud]) rfl (fun _ => rfl) (fun u hu hF => ?_) (fun v19 => ?_)
  · have h5_ : v18 = (Bo (finF (cf .f32 r1))) := hF.1
    clear hF
    refine doesG_un rfl ?_
    obtain rfl := h5_
    refine (does_move (u := (Bo (finF (cf .f32 r1)))) (ev rfl)).mono ?_; rintro _ _ ⟨rfl, rfl⟩
    exact ⟨rfl, Ext.refl _⟩
  refine RW_d (fun v20 => [(.agg #[(Fl r1), (Fl r3), (Fl r5)]), (Pt b8 0), (Bo false), v16, v17, v18, v19, v20, Ud, Ud, Ud, Ud, Ud, Ud, Ud, Ud]) rfl (fun _ => rfl) (fun u hu hF => ?_) (fun v20 => ?_)
  · have h6_ : v19 = (Bo (finF (cf .f32 r1))) := hF.1
    clear hF
    obtain rfl := h6_
    refine doesG_g (b := (finF (cf .f32 r1))) rfl (yld rfl rfl) (fun hg1 => ?_) (fun hc => ⟨fun hg1 => absurd hg1 hc, Ext.refl _⟩)
    refine (does_fieldAddr (ev rfl) fa29_1).mono ?_; rintro _ _ ⟨rfl, rfl⟩
    exact ⟨fun _ => rfl, Ext.refl _⟩
  refine RW_d (fun v21 => [(.agg #[(Fl r1), (Fl r3), (Fl r5)]), (Pt b8 0), (Bo false), v16, v17, v18, v19, v20, v21, Ud, Ud, Ud, Ud, Ud, Ud, Ud]) rfl (fun _ => rfl) (fun u hu hF => ?_) (fun v21 => ?_)
  · have h7_ : (finF (cf .f32 r1)) = true → v20 = (Pt b8 1) := hF.1
    have h6_ : v19 = (Bo (finF (cf .f32 r1))) := hF.2.1
    clear hF
    obtain rfl := h6_
    refine doesG_g (b := (finF (cf .f32 r1))) rfl (yld rfl rfl) (fun hg1 => ?_) (fun hc => ⟨fun hg1 => absurd hg1 hc, Ext.refl _⟩)
    obtain rfl := h7_ hg1
    refine (does_load (u := (Fl r3)) (ev rfl) Try.isAgg22 (Cells.at (Blk.cells (hB10.ext hu)) 1 rfl)).mono ?_; rintro _ _ ⟨rfl, rfl⟩
    exact ⟨fun _ => rfl, Ext.refl _⟩
  refine RW_d (fun v22 => [(.agg #[(Fl r1), (Fl r3), (Fl r5)]), (Pt b8 0), (Bo false), v16, v17, v18, v19, v20, v21, v22, Ud, Ud, Ud, Ud, Ud, Ud]) rfl (fun _ => rfl) (fun u hu hF => ?_) (fun v22 => ?_)
  · have h8_ : (finF (cf .f32 r1)) = true → v21 = (Fl r3) := hF.1
    have h6_ : v19 = (Bo (finF (cf .f32 r1))) := hF.2.1
    clear hF
    obtain rfl := h6_
    refine doesG_g (b := (finF (cf .f32 r1))) rfl (yld rfl rfl) (fun hg1 => ?_) (fun hc => ⟨fun hg1 => absurd hg1 hc, Ext.refl _⟩)
    obtain rfl := h8_ hg1
    refine (does_call (args := #[(Fl r3)]) cal48 (evs rfl) (c_spec_l01Finite r3 _)).mono ?_; rintro v u' ⟨hx, hv⟩
    exact ⟨fun _ => hv, hx⟩
  refine RW_d (fun v23 => [(.agg #[(Fl r1), (Fl r3), (Fl r5)]), (Pt b8 0), (Bo false), v16, v17, v18, v19, v20, v21, v22, v23, Ud, Ud, Ud, Ud, Ud]) rfl (fun _ => rfl) (fun u hu hF => ?_) (fun v23 => ?_)
  · have h6_ : v19 = (Bo (finF (cf .f32 r1))) := hF.1
    have h9_ : (finF (cf .f32 r1)) = true → v22 = (Bo (finF (cf .f32 r3))) := hF.2.1
    clear hF
    refine doesG_un rfl ?_
    skip
    obtain rfl := h6_
    refine (does_pick (b := (finF (cf .f32 r1))) (ev rfl) (ev rfl) (ev rfl)).mono ?_; rintro _ _ ⟨rfl, rfl⟩; refine ⟨?_, Ext.refl _⟩; rw [hβ1]; skip
    cases hbb : (finF (cf .f32 r1)) <;> simp [hbb] at h9_ ⊢
    all_goals (first | rfl | (subst h9_; rfl) | simp_all)
  refine RW_d (fun v24 => [(.agg #[(Fl r1), (Fl r3), (Fl r5)]), (Pt b8 0), (Bo false), v16, v17, v18, v19, v20, v21, v22, v23, v24, Ud, Ud, Ud, Ud]) rfl (fun _ => rfl) (fun u hu hF => ?_) (fun v24 => ?_)
  · have h10_ : v23 = (Bo β1) := hF.1
    clear hF
    refine doesG_un rfl ?_
    obtain rfl := h10_
    refine (does_move (u := (Bo β1)) (ev rfl)).mono ?_; rintro _ _ ⟨rfl, rfl⟩
    exact ⟨rfl, Ext.refl _⟩
  refine RW_d (fun v25 => [(.agg #[(Fl r1), (Fl r3), (Fl r5)]), (Pt b8 0), (Bo false), v16, v17, v18, v19, v20, v21, v22, v23, v24, v25, Ud, Ud, Ud]) rfl (fun _ => rfl) (fun u hu hF => ?_) (fun v25 => ?_)
  · have h11_ : v24 = (Bo β1) := hF.1
    clear hF
    obtain rfl := h11_
    refine doesG_g (b := β1) rfl (yld rfl rfl) (fun hg1 => ?_) (fun hc => ⟨fun hg1 => absurd hg1 hc, Ext.refl _⟩)
    refine (does_fieldAddr (ev rfl) fa29_2).mono ?_; rintro _ _ ⟨rfl, rfl⟩
    exact ⟨fun _ => rfl, Ext.refl _⟩
  refine RW_d (fun v26 => [(.agg #[(Fl r1), (Fl r3), (Fl r5)]), (Pt b8 0), (Bo false), v16, v17, v18, v19, v20, v21, v22, v23, v24, v25, v26, Ud, Ud]) rfl (fun _ => rfl) (fun u hu hF => ?_) (fun v26 => ?_)
  · have h12_ : β1 = true → v25 = (Pt b8 2) := hF.1
    have h11_ : v24 = (Bo β1) := hF.2.1
    clear hF
    obtain rfl := h11_
    refine doesG_g (b := β1) rfl (yld rfl rfl) (fun hg1 => ?_) (fun hc => ⟨fun hg1 => absurd hg1 hc, Ext.refl _⟩)
    obtain rfl := h12_ hg1
    refine (does_load (u := (Fl r5)) (ev rfl) Try.isAgg22 (Cells.at (Blk.cells (hB10.ext hu)) 2 rfl)).mono ?_; rintro _ _ ⟨rfl, rfl⟩
    exact ⟨fun _ => rfl, Ext.refl _⟩
  refine RW_d (fun v27 => [(.agg #[(Fl r1), (Fl r3), (Fl r5)]), (Pt b8 0), (Bo false), v16, v17, v18, v19, v20, v21, v22, v23, v24, v25, v26, v27, Ud]) rfl (fun _ => rfl) (fun u hu hF => ?_) (fun v27 => ?_)
  · have h13_ : β1 = true → v26 = (Fl r5) := hF.1
    have h11_ : v24 = (Bo β1) := hF.2.1
    clear hF
    obtain rfl := h11_
    refine doesG_g (b := β1) rfl (yld rfl rfl) (fun hg1 => ?_) (fun hc => ⟨fun hg1 => absurd hg1 hc, Ext.refl _⟩)
    obtain rfl := h13_ hg1
    refine (does_call (args := #[(Fl r5)]) cal48 (evs rfl) (c_spec_l01Finite r5 _)).mono ?_; rintro v u' ⟨hx, hv⟩
    exact ⟨fun _ => hv, hx⟩
  refine RW_d (fun v28 => [(.agg #[(Fl r1), (Fl r3), (Fl r5)]), (Pt b8 0), (Bo false), v16, v17, v18, v19, v20, v21, v22, v23, v24, v25, v26, v27, v28]) rfl (fun _ => rfl) (fun u hu hF => ?_) (fun v28 => ?_)
  · have h11_ : v24 = (Bo β1) := hF.1
    have h14_ : β1 = true → v27 = (Bo (finF (cf .f32 r5))) := hF.2.1
    clear hF
    refine doesG_un rfl ?_
    skip
    obtain rfl := h11_
    refine (does_pick (b := β1) (ev rfl) (ev rfl) (ev rfl)).mono ?_; rintro _ _ ⟨rfl, rfl⟩; refine ⟨?_, Ext.refl _⟩; rw [hβ2]; skip
    cases hbb : β1 <;> simp [hbb] at h14_ ⊢
    all_goals (first | rfl | (subst h14_; rfl) | simp_all)
  refine RW_fin ?_; intro w29 E30 hP31
  obtain ⟨⟨⟨⟨⟨⟨⟨⟨⟨⟨⟨⟨⟨-, -⟩, -⟩, -⟩, -⟩, -⟩, -⟩, -⟩, -⟩, -⟩, -⟩, -⟩, -⟩, q32⟩ := hP31
  have X33 := Ext.gr X14 E30
  have q32 : v28 = (Bo β2) := q32
  obtain rfl := q32
  show wpList _ _ _ _ (fr [(.agg #[(Fl r1), (Fl r3), (Fl r5)]), (Pt b8 0), (Bo false), v16, v17, v18, v19, v20, v21, v22, v23, v24, v25, v26, v27, (Bo β2)]) _
  refine q_is (l' := [(.agg #[(Fl r1), (Fl r3), (Fl r5)]), (Pt b8 0), (Bo β2), v16, v17, v18, v19, v20, v21, v22, v23, v24, v25, v26, v27, (Bo β2)]) rfl rfl (does_assign (u := (Bo β2)) (ev rfl)) rfl ?_
  refine wpList_nil (hK15 _ _ ?_)
  refine wp_ret ?_
  refine ret_val (v := (Bo β2)) (res_T rfl (slot rfl)) X33 ?_
  have x34 : (finV A_v) = β2 := by first | with_reducible rfl | (simp only [finV, h2, h4, h6, hβ1, hβ2]; done) | (simp [finV, h2, h4, h6, hβ1, hβ2]; done) | rfl
  exact (by first | rfl | rw [x34])

/- spec.l00In -/
theorem c_spec_l00In (n : Int) (low : Int) (high : Int) (w : World) : Gives Try.prog 37 #[(Iv n), (Iv low), (Iv high)] w (fun v w' => v = (Bo (inI n low high))) := by
  refine enter [(Iv n), (Iv low), (Iv high), Ud, Ud, Ud, Ud, Ud, Ud, Ud, Ud, Ud, Ud, Ud, Ud] Try.func37 rfl Try.ntmps37 rfl ?_
  refine wp_seq_k fun K1 hK1 => ?_
  refine wp_region_lit ?_
  refine q_is (l' := [(Iv n), (Iv low), (Iv high), Ud, Ud, Ud, (Bo false), Ud, Ud, Ud, Ud, Ud, Ud, Ud, Ud]) rfl rfl (does_assign (u := (Bo false)) (ev rfl)) rfl ?_
  refine wpList_nil (hK1 _ _ ?_)
  refine wp_seq_k fun K2 hK2 => ?_
  obtain ⟨β1, hβ1⟩ : ∃ b : Bool, b = ((icmp .geq n low) && (icmp .leq n high)) := ⟨_, rfl⟩
  refine region_text (
    [Fact.pure [] (fun v => v = (Iv n)),
    Fact.pure [] (fun v => v = (Iv low)),
    Fact.pure [7, 8] (fun v => v = (Bo (icmp .geq n low))),
    Fact.pure [9] (fun v => v = (Bo (icmp .geq n low))),
    Fact.pure [10] (fun v => (icmp .geq n low) = true → v = (Iv n)),
    Fact.pure [10] (fun v => (icmp .geq n low) = true → v = (Iv high)),
    Fact.pure [11, 12, 10] (fun v => (icmp .geq n low) = true → v = (Bo (icmp .leq n high))),
    Fact.pure [10, 13] (fun v => v = (Bo β1))]) (by simp [Fact.pure, Fact.mem]) ?_
  refine RW_d (fun v3 => [(Iv n), (Iv low), (Iv high), Ud, Ud, Ud, (Bo false), v3, Ud, Ud, Ud, Ud, Ud, Ud, Ud]) rfl (fun _ => rfl) (fun u hu hF => ?_) (fun v3 => ?_)
  · clear hF
    refine doesG_un rfl ?_
    refine (does_move (u := (Iv n)) (ev rfl)).mono ?_; rintro _ _ ⟨rfl, rfl⟩
    exact ⟨rfl, Ext.refl _⟩
  refine RW_d (fun v4 => [(Iv n), (Iv low), (Iv high), Ud, Ud, Ud, (Bo false), v3, v4, Ud, Ud, Ud, Ud, Ud, Ud]) rfl (fun _ => rfl) (fun u hu hF => ?_) (fun v4 => ?_)
  · clear hF
    refine doesG_un rfl ?_
    refine (does_move (u := (Iv low)) (ev rfl)).mono ?_; rintro _ _ ⟨rfl, rfl⟩
    exact ⟨rfl, Ext.refl _⟩
  refine RW_d (fun v5 => [(Iv n), (Iv low), (Iv high), Ud, Ud, Ud, (Bo false), v3, v4, v5, Ud, Ud, Ud, Ud, Ud]) rfl (fun _ => rfl) (fun u hu hF => ?_) (fun v5 => ?_)
  · have h7_ : v3 = (Iv n) := hF.1
    have h8_ : v4 = (Iv low) := hF.2.1
    clear hF
    refine doesG_un rfl ?_
    obtain rfl := h7_
    obtain rfl := h8_
    refine (does_icmp (p := n) (q := low) (.inr (.inr (.inr (.inr (.inr rfl))))) (ev rfl) (ev rfl)).mono ?_; rintro _ _ ⟨rfl, rfl⟩
    exact ⟨rfl, Ext.refl _⟩
  refine RW_d (fun v6 => [(Iv n), (Iv low), (Iv high), Ud, Ud, Ud, (Bo false), v3, v4, v5, v6, Ud, Ud, Ud, Ud]) rfl (fun _ => rfl) (fun u hu hF => ?_) (fun v6 => ?_)
  · have h9_ : v5 = (Bo (icmp .geq n low)) := hF.1
    clear hF
    refine doesG_un rfl ?_
    obtain rfl := h9_
    refine (does_move (u := (Bo (icmp .geq n low))) (ev rfl)).mono ?_; rintro _ _ ⟨rfl, rfl⟩
    exact ⟨rfl, Ext.refl _⟩
  refine RW_d (fun v7 => [(Iv n), (Iv low), (Iv high), Ud, Ud, Ud, (Bo false), v3, v4, v5, v6, v7, Ud, Ud, Ud]) rfl (fun _ => rfl) (fun u hu hF => ?_) (fun v7 => ?_)
  · have h10_ : v6 = (Bo (icmp .geq n low)) := hF.1
    clear hF
    obtain rfl := h10_
    refine doesG_g (b := (icmp .geq n low)) rfl (yld rfl rfl) (fun hg1 => ?_) (fun hc => ⟨fun hg1 => absurd hg1 hc, Ext.refl _⟩)
    refine (does_move (u := (Iv n)) (ev rfl)).mono ?_; rintro _ _ ⟨rfl, rfl⟩
    exact ⟨fun _ => rfl, Ext.refl _⟩
  refine RW_d (fun v8 => [(Iv n), (Iv low), (Iv high), Ud, Ud, Ud, (Bo false), v3, v4, v5, v6, v7, v8, Ud, Ud]) rfl (fun _ => rfl) (fun u hu hF => ?_) (fun v8 => ?_)
  · have h10_ : v6 = (Bo (icmp .geq n low)) := hF.1
    clear hF
    obtain rfl := h10_
    refine doesG_g (b := (icmp .geq n low)) rfl (yld rfl rfl) (fun hg1 => ?_) (fun hc => ⟨fun hg1 => absurd hg1 hc, Ext.refl _⟩)
    refine (does_move (u := (Iv high)) (ev rfl)).mono ?_; rintro _ _ ⟨rfl, rfl⟩
    exact ⟨fun _ => rfl, Ext.refl _⟩
  refine RW_d (fun v9 => [(Iv n), (Iv low), (Iv high), Ud, Ud, Ud, (Bo false), v3, v4, v5, v6, v7, v8, v9, Ud]) rfl (fun _ => rfl) (fun u hu hF => ?_) (fun v9 => ?_)
  · have h11_ : (icmp .geq n low) = true → v7 = (Iv n) := hF.1
    have h12_ : (icmp .geq n low) = true → v8 = (Iv high) := hF.2.1
    have h10_ : v6 = (Bo (icmp .geq n low)) := hF.2.2.1
    clear hF
    obtain rfl := h10_
    refine doesG_g (b := (icmp .geq n low)) rfl (yld rfl rfl) (fun hg1 => ?_) (fun hc => ⟨fun hg1 => absurd hg1 hc, Ext.refl _⟩)
    obtain rfl := h11_ hg1
    obtain rfl := h12_ hg1
    refine (does_icmp (p := n) (q := high) (.inr (.inr (.inr (.inl rfl)))) (ev rfl) (ev rfl)).mono ?_; rintro _ _ ⟨rfl, rfl⟩
    exact ⟨fun _ => rfl, Ext.refl _⟩
  refine RW_d (fun v10 => [(Iv n), (Iv low), (Iv high), Ud, Ud, Ud, (Bo false), v3, v4, v5, v6, v7, v8, v9, v10]) rfl (fun _ => rfl) (fun u hu hF => ?_) (fun v10 => ?_)
  · have h10_ : v6 = (Bo (icmp .geq n low)) := hF.1
    have h13_ : (icmp .geq n low) = true → v9 = (Bo (icmp .leq n high)) := hF.2.1
    clear hF
    refine doesG_un rfl ?_
    skip
    obtain rfl := h10_
    refine (does_pick (b := (icmp .geq n low)) (ev rfl) (ev rfl) (ev rfl)).mono ?_; rintro _ _ ⟨rfl, rfl⟩; refine ⟨?_, Ext.refl _⟩; rw [hβ1]; skip
    cases hbb : (icmp .geq n low) <;> simp [hbb] at h13_ ⊢
    all_goals (first | rfl | (subst h13_; rfl) | simp_all)
  refine RW_fin ?_; intro w11 E12 hP13
  obtain ⟨⟨⟨⟨⟨⟨⟨⟨-, -⟩, -⟩, -⟩, -⟩, -⟩, -⟩, -⟩, q14⟩ := hP13
  have X15 := Ext.gr (Ext.refl w) E12
  have q14 : v10 = (Bo β1) := q14
  obtain rfl := q14
  show wpList _ _ _ _ (fr [(Iv n), (Iv low), (Iv high), Ud, Ud, Ud, (Bo false), v3, v4, v5, v6, v7, v8, v9, (Bo β1)]) _
  refine q_is (l' := [(Iv n), (Iv low), (Iv high), Ud, Ud, Ud, (Bo β1), v3, v4, v5, v6, v7, v8, v9, (Bo β1)]) rfl rfl (does_assign (u := (Bo β1)) (ev rfl)) rfl ?_
  refine wpList_nil (hK2 _ _ ?_)
  refine wp_ret ?_
  refine ret_val (v := (Bo β1)) (res_T rfl (slot rfl)) X15 ?_
  have x16 : (inI n low high) = β1 := by first | with_reducible rfl | (simp only [inI, hβ1]; done) | (simp [inI, hβ1]; done) | rfl
  exact (by first | rfl | rw [x16])

/- spec.l06Counts -/
theorem c_spec_l06Counts (x : Int) (y : Int) (z : Int) (w : World) : Gives Try.prog 49 #[(Iv x), (Iv y), (Iv z)] w (fun v w' => v = (Bo (cntOk x y z))) := by
  refine enter [(Iv x), (Iv y), (Iv z), Ud, Ud, Ud, Ud, Ud, Ud, Ud, Ud, Ud, Ud, Ud, Ud, Ud, Ud, Ud, Ud, Ud, Ud, Ud, Ud, Ud, Ud] Try.func49 rfl Try.ntmps49 rfl ?_
  refine wp_seq_k fun K1 hK1 => ?_
  refine wp_region_lit ?_
  refine q_is rfl rfl (does_assign (u := (Bo false)) (ev rfl)) (by dsimp only [List.set]; try rfl) ?_
  refine wpList_nil (hK1 _ _ ?_)
  refine wp_seq_k fun K2 hK2 => ?_
  obtain ⟨β1, hβ1⟩ : ∃ b : Bool, b = ((inI x 1 16) && (inI y 1 16)) := ⟨_, rfl⟩
  obtain ⟨β2, hβ2⟩ : ∃ b : Bool, b = (icmp .leq (IntKind.i64.wrap ((IntKind.i64.wrap (x * y)) * z)) 1024) := ⟨_, rfl⟩
  obtain ⟨β3, hβ3⟩ : ∃ b : Bool, b = ((β1 && (inI z 1 16)) && β2) := ⟨_, rfl⟩
  refine region_text (
    [Fact.pure [] (fun v => v = (Iv x)),
    Fact.pure [7] (fun v => v = (Bo (inI x 1 16))),
    Fact.pure [8] (fun v => v = (Bo (inI x 1 16))),
    Fact.pure [9] (fun v => (inI x 1 16) = true → v = (Iv y)),
    Fact.pure [10, 9] (fun v => (inI x 1 16) = true → v = (Bo (inI y 1 16))),
    Fact.pure [9, 11] (fun v => v = (Bo β1)),
    Fact.pure [12] (fun v => v = (Bo β1)),
    Fact.pure [13] (fun v => β1 = true → v = (Iv z)),
    Fact.pure [14, 13] (fun v => β1 = true → v = (Bo (inI z 1 16))),
    Fact.pure [13, 15] (fun v => v = (Bo (β1 && (inI z 1 16)))),
    Fact.pure [16] (fun v => v = (Bo (β1 && (inI z 1 16)))),
    Fact.pure [17] (fun v => (β1 && (inI z 1 16)) = true → v = (Iv x)),
    Fact.pure [17] (fun v => (β1 && (inI z 1 16)) = true → v = (Iv y)),
    Fact.pure [18, 19, 17] (fun v => (β1 && (inI z 1 16)) = true → v = (Iv (IntKind.i64.wrap (x * y)))),
    Fact.pure [17] (fun v => (β1 && (inI z 1 16)) = true → v = (Iv z)),
    Fact.pure [20, 21, 17] (fun v => (β1 && (inI z 1 16)) = true → v = (Iv (IntKind.i64.wrap ((IntKind.i64.wrap (x * y)) * z)))),
    Fact.pure [22, 17] (fun v => (β1 && (inI z 1 16)) = true → v = (Bo β2)),
    Fact.pure [17, 23] (fun v => v = (Bo β3))]) (by simp [Fact.pure, Fact.mem]) ?_
  refine RW_d _ rfl (fun v => by dsimp only [List.set]; try rfl) (fun u hu hF => ?_) (fun v3 => ?_)
  · clear hF
    refine doesG_un rfl ?_
    refine (does_move (u := (Iv x)) (ev rfl)).mono ?_; rintro _ _ ⟨rfl, rfl⟩
    exact ⟨rfl, Ext.refl _⟩
  refine RW_d _ rfl (fun v => by dsimp only [List.set]; try rfl) (fun u hu hF => ?_) (fun v4 => ?_)
  · have h7_ : v3 = (Iv x) := hF.1
    clear hF
    refine doesG_un rfl ?_
    obtain rfl := h7_
    refine (does_call (args := #[(Iv x), (Iv 1), (Iv 16)]) cal37 (evs rfl) (c_spec_l00In x 1 16 _)).mono ?_; rintro v u' ⟨hx, hv⟩
    exact ⟨hv, hx⟩
  refine RW_d _ rfl (fun v => by dsimp only [List.set]; try rfl) (fun u hu hF => ?_) (fun v5 => ?_)
  · have h8_ : v4 = (Bo (inI x 1 16)) := hF.1
    clear hF
    refine doesG_un rfl ?_
    obtain rfl := h8_
    refine (does_move (u := (Bo (inI x 1 16))) (ev rfl)).mono ?_; rintro _ _ ⟨rfl, rfl⟩
    exact ⟨rfl, Ext.refl _⟩
  refine RW_d _ rfl (fun v => by dsimp only [List.set]; try rfl) (fun u hu hF => ?_) (fun v6 => ?_)
  · have h9_ : v5 = (Bo (inI x 1 16)) := hF.1
    clear hF
    obtain rfl := h9_
    refine doesG_g (b := (inI x 1 16)) rfl (yld rfl rfl) (fun hg1 => ?_) (fun hc => ⟨fun hg1 => absurd hg1 hc, Ext.refl _⟩)
    refine (does_move (u := (Iv y)) (ev rfl)).mono ?_; rintro _ _ ⟨rfl, rfl⟩
    exact ⟨fun _ => rfl, Ext.refl _⟩
  refine RW_d _ rfl (fun v => by dsimp only [List.set]; try rfl) (fun u hu hF => ?_) (fun v7 => ?_)
  · have h10_ : (inI x 1 16) = true → v6 = (Iv y) := hF.1
    have h9_ : v5 = (Bo (inI x 1 16)) := hF.2.1
    clear hF
    obtain rfl := h9_
    refine doesG_g (b := (inI x 1 16)) rfl (yld rfl rfl) (fun hg1 => ?_) (fun hc => ⟨fun hg1 => absurd hg1 hc, Ext.refl _⟩)
    obtain rfl := h10_ hg1
    refine (does_call (args := #[(Iv y), (Iv 1), (Iv 16)]) cal37 (evs rfl) (c_spec_l00In y 1 16 _)).mono ?_; rintro v u' ⟨hx, hv⟩
    exact ⟨fun _ => hv, hx⟩
  refine RW_d _ rfl (fun v => by dsimp only [List.set]; try rfl) (fun u hu hF => ?_) (fun v8 => ?_)
  · have h9_ : v5 = (Bo (inI x 1 16)) := hF.1
    have h11_ : (inI x 1 16) = true → v7 = (Bo (inI y 1 16)) := hF.2.1
    clear hF
    refine doesG_un rfl ?_
    skip
    obtain rfl := h9_
    refine (does_pick (b := (inI x 1 16)) (ev rfl) (ev rfl) (ev rfl)).mono ?_; rintro _ _ ⟨rfl, rfl⟩; refine ⟨?_, Ext.refl _⟩; rw [hβ1]; skip
    cases hbb : (inI x 1 16) <;> simp [hbb] at h11_ ⊢
    all_goals (first | rfl | (subst h11_; rfl) | simp_all)
  refine RW_d _ rfl (fun v => by dsimp only [List.set]; try rfl) (fun u hu hF => ?_) (fun v9 => ?_)
  · have h12_ : v8 = (Bo β1) := hF.1
    clear hF
    refine doesG_un rfl ?_
    obtain rfl := h12_
    refine (does_move (u := (Bo β1)) (ev rfl)).mono ?_; rintro _ _ ⟨rfl, rfl⟩
    exact ⟨rfl, Ext.refl _⟩
  refine RW_d _ rfl (fun v => by dsimp only [List.set]; try rfl) (fun u hu hF => ?_) (fun v10 => ?_)
  · have h13_ : v9 = (Bo β1) := hF.1
    clear hF
    obtain rfl := h13_
    refine doesG_g (b := β1) rfl (yld rfl rfl) (fun hg1 => ?_) (fun hc => ⟨fun hg1 => absurd hg1 hc, Ext.refl _⟩)
    refine (does_move (u := (Iv z)) (ev rfl)).mono ?_; rintro _ _ ⟨rfl, rfl⟩
    exact ⟨fun _ => rfl, Ext.refl _⟩
  refine RW_d _ rfl (fun v => by dsimp only [List.set]; try rfl) (fun u hu hF => ?_) (fun v11 => ?_)
  · have h14_ : β1 = true → v10 = (Iv z) := hF.1
    have h13_ : v9 = (Bo β1) := hF.2.1
    clear hF
    obtain rfl := h13_
    refine doesG_g (b := β1) rfl (yld rfl rfl) (fun hg1 => ?_) (fun hc => ⟨fun hg1 => absurd hg1 hc, Ext.refl _⟩)
    obtain rfl := h14_ hg1
    refine (does_call (args := #[(Iv z), (Iv 1), (Iv 16)]) cal37 (evs rfl) (c_spec_l00In z 1 16 _)).mono ?_; rintro v u' ⟨hx, hv⟩
    exact ⟨fun _ => hv, hx⟩
  refine RW_d _ rfl (fun v => by dsimp only [List.set]; try rfl) (fun u hu hF => ?_) (fun v12 => ?_)
  · have h13_ : v9 = (Bo β1) := hF.1
    have h15_ : β1 = true → v11 = (Bo (inI z 1 16)) := hF.2.1
    clear hF
    refine doesG_un rfl ?_
    skip
    obtain rfl := h13_
    refine (does_pick (b := β1) (ev rfl) (ev rfl) (ev rfl)).mono ?_; rintro _ _ ⟨rfl, rfl⟩; refine ⟨?_, Ext.refl _⟩; skip
    cases hbb : β1 <;> simp [hbb] at h15_ ⊢
    all_goals (first | rfl | (subst h15_; rfl) | simp_all)
  refine RW_d _ rfl (fun v => by dsimp only [List.set]; try rfl) (fun u hu hF => ?_) (fun v13 => ?_)
  · have h16_ : v12 = (Bo (β1 && (inI z 1 16))) := hF.1
    clear hF
    refine doesG_un rfl ?_
    obtain rfl := h16_
    refine (does_move (u := (Bo (β1 && (inI z 1 16)))) (ev rfl)).mono ?_; rintro _ _ ⟨rfl, rfl⟩
    exact ⟨rfl, Ext.refl _⟩
  refine RW_d _ rfl (fun v => by dsimp only [List.set]; try rfl) (fun u hu hF => ?_) (fun v14 => ?_)
  · have h17_ : v13 = (Bo (β1 && (inI z 1 16))) := hF.1
    clear hF
    obtain rfl := h17_
    refine doesG_g (b := (β1 && (inI z 1 16))) rfl (yld rfl rfl) (fun hg1 => ?_) (fun hc => ⟨fun hg1 => absurd hg1 hc, Ext.refl _⟩)
    refine (does_move (u := (Iv x)) (ev rfl)).mono ?_; rintro _ _ ⟨rfl, rfl⟩
    exact ⟨fun _ => rfl, Ext.refl _⟩
  refine RW_d _ rfl (fun v => by dsimp only [List.set]; try rfl) (fun u hu hF => ?_) (fun v15 => ?_)
  · have h17_ : v13 = (Bo (β1 && (inI z 1 16))) := hF.1
    clear hF
    obtain rfl := h17_
    refine doesG_g (b := (β1 && (inI z 1 16))) rfl (yld rfl rfl) (fun hg1 => ?_) (fun hc => ⟨fun hg1 => absurd hg1 hc, Ext.refl _⟩)
    refine (does_move (u := (Iv y)) (ev rfl)).mono ?_; rintro _ _ ⟨rfl, rfl⟩
    exact ⟨fun _ => rfl, Ext.refl _⟩
  refine RW_d _ rfl (fun v => by dsimp only [List.set]; try rfl) (fun u hu hF => ?_) (fun v16 => ?_)
  · have h18_ : (β1 && (inI z 1 16)) = true → v14 = (Iv x) := hF.1
    have h19_ : (β1 && (inI z 1 16)) = true → v15 = (Iv y) := hF.2.1
    have h17_ : v13 = (Bo (β1 && (inI z 1 16))) := hF.2.2.1
    clear hF
    obtain rfl := h17_
    refine doesG_g (b := (β1 && (inI z 1 16))) rfl (yld rfl rfl) (fun hg1 => ?_) (fun hc => ⟨fun hg1 => absurd hg1 hc, Ext.refl _⟩)
    obtain rfl := h18_ hg1
    obtain rfl := h19_ hg1
    refine (does_iarith (p := x) (q := y) (r := IntKind.i64.wrap (x * y)) (ev rfl) (ev rfl) (.inr (.inr ⟨rfl, rfl⟩))).mono ?_; rintro _ _ ⟨rfl, rfl⟩
    exact ⟨fun _ => rfl, Ext.refl _⟩
  refine RW_d _ rfl (fun v => by dsimp only [List.set]; try rfl) (fun u hu hF => ?_) (fun v17 => ?_)
  · have h17_ : v13 = (Bo (β1 && (inI z 1 16))) := hF.1
    clear hF
    obtain rfl := h17_
    refine doesG_g (b := (β1 && (inI z 1 16))) rfl (yld rfl rfl) (fun hg1 => ?_) (fun hc => ⟨fun hg1 => absurd hg1 hc, Ext.refl _⟩)
    refine (does_move (u := (Iv z)) (ev rfl)).mono ?_; rintro _ _ ⟨rfl, rfl⟩
    exact ⟨fun _ => rfl, Ext.refl _⟩
  refine RW_d _ rfl (fun v => by dsimp only [List.set]; try rfl) (fun u hu hF => ?_) (fun v18 => ?_)
  · have h20_ : (β1 && (inI z 1 16)) = true → v16 = (Iv (IntKind.i64.wrap (x * y))) := hF.1
    have h21_ : (β1 && (inI z 1 16)) = true → v17 = (Iv z) := hF.2.1
    have h17_ : v13 = (Bo (β1 && (inI z 1 16))) := hF.2.2.1
    clear hF
    obtain rfl := h17_
    refine doesG_g (b := (β1 && (inI z 1 16))) rfl (yld rfl rfl) (fun hg1 => ?_) (fun hc => ⟨fun hg1 => absurd hg1 hc, Ext.refl _⟩)
    obtain rfl := h20_ hg1
    obtain rfl := h21_ hg1
    refine (does_iarith (p := IntKind.i64.wrap (x * y)) (q := z) (r := IntKind.i64.wrap ((IntKind.i64.wrap (x * y)) * z)) (ev rfl) (ev rfl) (.inr (.inr ⟨rfl, rfl⟩))).mono ?_; rintro _ _ ⟨rfl, rfl⟩
    exact ⟨fun _ => rfl, Ext.refl _⟩
  refine RW_d _ rfl (fun v => by dsimp only [List.set]; try rfl) (fun u hu hF => ?_) (fun v19 => ?_)
  · have h22_ : (β1 && (inI z 1 16)) = true → v18 = (Iv (IntKind.i64.wrap ((IntKind.i64.wrap (x * y)) * z))) := hF.1
    have h17_ : v13 = (Bo (β1 && (inI z 1 16))) := hF.2.1
    clear hF
    obtain rfl := h17_
    refine doesG_g (b := (β1 && (inI z 1 16))) rfl (yld rfl rfl) (fun hg1 => ?_) (fun hc => ⟨fun hg1 => absurd hg1 hc, Ext.refl _⟩)
    obtain rfl := h22_ hg1
    refine (does_icmp (p := IntKind.i64.wrap ((IntKind.i64.wrap (x * y)) * z)) (q := 1024) (.inr (.inr (.inr (.inl rfl)))) (ev rfl) (ev rfl)).mono ?_; rintro _ _ ⟨rfl, rfl⟩
    exact ⟨fun _ => (by first | rfl | (show _ = _; simp only [hβ2])), Ext.refl _⟩
  refine RW_d _ rfl (fun v => by dsimp only [List.set]; try rfl) (fun u hu hF => ?_) (fun v20 => ?_)
  · have h17_ : v13 = (Bo (β1 && (inI z 1 16))) := hF.1
    have h23_ : (β1 && (inI z 1 16)) = true → v19 = (Bo β2) := hF.2.1
    clear hF
    refine doesG_un rfl ?_
    skip
    obtain rfl := h17_
    refine (does_pick (b := (β1 && (inI z 1 16))) (ev rfl) (ev rfl) (ev rfl)).mono ?_; rintro _ _ ⟨rfl, rfl⟩; refine ⟨?_, Ext.refl _⟩; rw [hβ3]; skip
    cases hbb : (β1 && (inI z 1 16)) <;> simp [hbb] at h23_ ⊢
    all_goals (first | rfl | (subst h23_; rfl) | simp_all)
  refine RW_fin ?_; intro w21 E22 hP23
  obtain ⟨⟨⟨⟨⟨⟨⟨⟨⟨⟨⟨⟨⟨⟨⟨⟨⟨⟨-, -⟩, -⟩, -⟩, -⟩, -⟩, -⟩, -⟩, -⟩, -⟩, -⟩, -⟩, -⟩, -⟩, -⟩, -⟩, -⟩, -⟩, q24⟩ := hP23
  have X25 := Ext.gr (Ext.refl w) E22
  have q24 : v20 = (Bo β3) := q24
  obtain rfl := q24
  show wpList _ _ _ _ (fr [(Iv x), (Iv y), (Iv z), Ud, Ud, Ud, (Bo false), v3, v4, v5, v6, v7, v8, v9, v10, v11, v12, v13, v14, v15, v16, v17, v18, v19, (Bo β3)]) _
  refine q_is rfl rfl (does_assign (u := (Bo β3)) (ev rfl)) (by dsimp only [List.set]; try rfl) ?_
  refine wpList_nil (hK2 _ _ ?_)
  refine wp_ret ?_
  refine ret_val (v := (Bo β3)) (res_T rfl (slot rfl)) X25 ?_
  have x26 : (cntOk x y z) = β3 := by first | with_reducible rfl | (simp only [cntOk, prod3, hβ1, hβ2, hβ3]; done) | (simp [cntOk, prod3, hβ1, hβ2, hβ3]; done) | rfl
  exact (by first | rfl | rw [x26])

/- spec.l06Is -/
theorem c_spec_l06Is (g_b : Nat) (g_o : Nat) (g : List Value) (A_g : GridT) (w : World) (hc_g : Cells w g_b g_o g) (hv_g : RGridT w A_g g) : Gives Try.prog 24 #[(Pt g_b g_o)] w (fun v w' => v = (Bo (isGrid A_g))) := by
  obtain ⟨r1, r3, r5, r7, y9, rfl, h2, h4, h6, h8, h10⟩ := hv_g
  have hs13 := h10; have hs13l := Sl.len h10; obtain ⟨p11, q12, rfl⟩ := Sl.shape h10
  refine enter [(Pt g_b g_o), Ud, Ud, Ud, Ud, Ud, Ud, Ud, Ud, Ud, Ud, Ud, Ud, Ud, Ud, Ud, Ud, Ud, Ud, Ud, Ud, Ud, Ud, Ud, Ud, Ud, Ud, Ud, Ud, Ud, Ud, Ud, Ud, Ud, Ud, Ud, Ud, Ud, Ud, Ud, Ud, Ud, Ud, Ud, Ud, Ud, Ud, Ud, Ud, Ud, Ud, Ud, Ud, Ud, Ud, Ud, Ud, Ud, Ud] Try.func24 rfl Try.ntmps24 rfl ?_
  refine wp_seq_k fun K14 hK14 => ?_
  refine wp_region_lit ?_
  refine q_is rfl rfl (does_assign (u := (Bo false)) (ev rfl)) (by dsimp only [List.set]; try rfl) ?_
  refine wpList_nil (hK14 _ _ ?_)
  refine wp_seq_k fun K15 hK15 => ?_
  obtain ⟨β1, hβ1⟩ : ∃ b : Bool, b = ((finV A_g.low) && (finF (cf .f32 r7))) := ⟨_, rfl⟩
  obtain ⟨β2, hβ2⟩ : ∃ b : Bool, b = (fcmp .gtr (ford .f32 (cf .f32 r7) (cf .f32 0))) := ⟨_, rfl⟩
  obtain ⟨β3, hβ3⟩ : ∃ b : Bool, b = ((β1 && β2) && (cntOk A_g.x A_g.y A_g.z)) := ⟨_, rfl⟩
  obtain ⟨β4, hβ4⟩ : ∃ b : Bool, b = (icmp .eql (A_g.vals.length : Int) (IntKind.i64.wrap ((IntKind.i64.wrap (A_g.x * A_g.y)) * A_g.z))) := ⟨_, rfl⟩
  refine region_draw (
    [Fact.pure [] (fun v => v = (Pt g_b g_o)),
    Fact.pure [3] (fun v => v = (Pt g_b g_o)),
    Fact.pure [4] (fun v => v = (Pt g_b g_o)),
    Fact.pure [5] (fun v => v = (.agg #[(Fl r1), (Fl r3), (Fl r5)])),
    Fact.pure [6] (fun v => v = (Bo (finV A_g.low))),
    Fact.pure [7] (fun v => v = (Bo (finV A_g.low))),
    Fact.pure [8] (fun v => (finV A_g.low) = true → v = (Pt g_b g_o)),
    Fact.pure [9, 8] (fun v => (finV A_g.low) = true → v = (Pt g_b g_o)),
    Fact.pure [10, 8] (fun v => (finV A_g.low) = true → v = (Pt g_b (g_o + 3))),
    Fact.pure [11, 8] (fun v => (finV A_g.low) = true → v = (Fl r7)),
    Fact.pure [12, 8] (fun v => (finV A_g.low) = true → v = (Bo (finF (cf .f32 r7)))),
    Fact.pure [8, 13] (fun v => v = (Bo β1)),
    Fact.pure [14] (fun v => v = (Bo β1)),
    Fact.pure [15] (fun v => β1 = true → v = (Pt g_b g_o)),
    Fact.pure [16, 15] (fun v => β1 = true → v = (Pt g_b g_o)),
    Fact.pure [17, 15] (fun v => β1 = true → v = (Pt g_b (g_o + 3))),
    Fact.pure [18, 15] (fun v => β1 = true → v = (Fl r7)),
    Fact.pure [19, 15] (fun v => β1 = true → v = (Bo β2)),
    Fact.pure [15, 20] (fun v => v = (Bo (β1 && β2))),
    Fact.pure [21] (fun v => v = (Bo (β1 && β2))),
    Fact.pure [22] (fun v => (β1 && β2) = true → v = (Pt g_b g_o)),
    Fact.pure [23, 22] (fun v => (β1 && β2) = true → v = (Pt g_b g_o)),
    Fact.pure [24, 22] (fun v => (β1 && β2) = true → v = (Pt g_b (g_o + 4))),
    Fact.pure [25, 22] (fun v => (β1 && β2) = true → v = (Iv A_g.x)),
    Fact.pure [22] (fun v => (β1 && β2) = true → v = (Pt g_b g_o)),
    Fact.pure [27, 22] (fun v => (β1 && β2) = true → v = (Pt g_b g_o)),
    Fact.pure [28, 22] (fun v => (β1 && β2) = true → v = (Pt g_b (g_o + 5))),
    Fact.pure [29, 22] (fun v => (β1 && β2) = true → v = (Iv A_g.y)),
    Fact.pure [22] (fun v => (β1 && β2) = true → v = (Pt g_b g_o)),
    Fact.pure [31, 22] (fun v => (β1 && β2) = true → v = (Pt g_b g_o)),
    Fact.pure [32, 22] (fun v => (β1 && β2) = true → v = (Pt g_b (g_o + 6))),
    Fact.pure [33, 22] (fun v => (β1 && β2) = true → v = (Iv A_g.z)),
    Fact.pure [26, 30, 34, 22] (fun v => (β1 && β2) = true → v = (Bo (cntOk A_g.x A_g.y A_g.z))),
    Fact.pure [22, 35] (fun v => v = (Bo β3)),
    Fact.pure [36] (fun v => v = (Bo β3)),
    Fact.pure [37] (fun v => β3 = true → v = (Pt g_b g_o)),
    Fact.pure [38, 37] (fun v => β3 = true → v = (Pt g_b g_o)),
    Fact.pure [39, 37] (fun v => β3 = true → v = (Pt g_b (g_o + 7))),
    Fact.pure [40, 37] (fun v => β3 = true → v = (.slice p11 A_g.vals.length q12)),
    Fact.pure [41, 37] (fun v => β3 = true → v = (Iv (A_g.vals.length : Int))),
    Fact.pure [37] (fun v => β3 = true → v = (Pt g_b g_o)),
    Fact.pure [43, 37] (fun v => β3 = true → v = (Pt g_b g_o)),
    Fact.pure [44, 37] (fun v => β3 = true → v = (Pt g_b (g_o + 4))),
    Fact.pure [45, 37] (fun v => β3 = true → v = (Iv A_g.x)),
    Fact.pure [37] (fun v => β3 = true → v = (Pt g_b g_o)),
    Fact.pure [47, 37] (fun v => β3 = true → v = (Pt g_b g_o)),
    Fact.pure [48, 37] (fun v => β3 = true → v = (Pt g_b (g_o + 5))),
    Fact.pure [49, 37] (fun v => β3 = true → v = (Iv A_g.y)),
    Fact.pure [46, 50, 37] (fun v => β3 = true → v = (Iv (IntKind.i64.wrap (A_g.x * A_g.y)))),
    Fact.pure [37] (fun v => β3 = true → v = (Pt g_b g_o)),
    Fact.pure [52, 37] (fun v => β3 = true → v = (Pt g_b g_o)),
    Fact.pure [53, 37] (fun v => β3 = true → v = (Pt g_b (g_o + 6))),
    Fact.pure [54, 37] (fun v => β3 = true → v = (Iv A_g.z)),
    Fact.pure [51, 55, 37] (fun v => β3 = true → v = (Iv (IntKind.i64.wrap ((IntKind.i64.wrap (A_g.x * A_g.y)) * A_g.z)))),
    Fact.pure [42, 56, 37] (fun v => β3 = true → v = (Bo β4)),
    Fact.pure [37, 57] (fun v => v = (Bo (β3 && β4)))]) mixed (by kernel_rfl) (by intro _ _ d _ _ h; cases d <;> exact h) ?_
  obtain ⟨w16, hw18⟩ : ∃ w', w' = World.drew w := ⟨_, rfl⟩; rw [← hw18]; have E17 : Ext w w16 := by rw [hw18]; exact Ext.draw _
  clear hw18
  have X19 := Ext.gr (Ext.refl w) E17
  refine RW_d _ rfl (fun v => by dsimp only [List.set]; try rfl) (fun u hu hF => ?_) (fun v20 => ?_)
  · clear hF
    refine doesG_un rfl ?_
    refine (does_move (u := (Pt g_b g_o)) (ev rfl)).mono ?_; rintro _ _ ⟨rfl, rfl⟩
    exact ⟨rfl, Ext.refl _⟩
  refine RW_d _ rfl (fun v => by dsimp only [List.set]; try rfl) (fun u hu hF => ?_) (fun v21 => ?_)
  · have h3_ : v20 = (Pt g_b g_o) := hF.1
    clear hF
    refine doesG_un rfl ?_
    obtain rfl := h3_
    refine (does_nilCheck (ev rfl)).mono ?_; rintro _ _ ⟨rfl, rfl⟩
    exact ⟨rfl, Ext.refl _⟩
  refine RW_d _ rfl (fun v => by dsimp only [List.set]; try rfl) (fun u hu hF => ?_) (fun v22 => ?_)
  · have h4_ : v21 = (Pt g_b g_o) := hF.1
    clear hF
    refine doesG_un rfl ?_
    obtain rfl := h4_
    refine (does_fieldAddr (ev rfl) fa31_0).mono ?_; rintro _ _ ⟨rfl, rfl⟩
    exact ⟨rfl, Ext.refl _⟩
  refine RW_d _ rfl (fun v => by dsimp only [List.set]; try rfl) (fun u hu hF => ?_) (fun v23 => ?_)
  · have h5_ : v22 = (Pt g_b g_o) := hF.1
    clear hF
    refine doesG_un rfl ?_
    obtain rfl := h5_
    refine (does_loadAgg (cs := [(Fl r1), (Fl r3), (Fl r5)]) (ev rfl) Try.isAgg29 Try.sizeOf29 (Cells.sub ((hc_g.ext (Ext.gr (Ext.refl w) E17)).ext hu) 0 3) rfl).mono ?_; rintro _ _ ⟨rfl, rfl⟩
    exact ⟨rfl, Ext.refl _⟩
  refine RW_d _ rfl (fun v => by dsimp only [List.set]; try rfl) (fun u hu hF => ?_) (fun v24 => ?_)
  · have h6_ : v23 = (.agg #[(Fl r1), (Fl r3), (Fl r5)]) := hF.1
    clear hF
    refine doesG_un rfl ?_
    obtain rfl := h6_
    refine (does_call (args := #[(.agg #[(Fl r1), (Fl r3), (Fl r5)])]) cal47 (evs rfl) (c_spec_l01VFinite [(Fl r1), (Fl r3), (Fl r5)] A_g.low _ ⟨r1, r3, r5, rfl, h2, h4, h6⟩)).mono ?_; rintro v u' ⟨hx, hv⟩
    exact ⟨hv, hx⟩
  refine RW_d _ rfl (fun v => by dsimp only [List.set]; try rfl) (fun u hu hF => ?_) (fun v25 => ?_)
  · have h7_ : v24 = (Bo (finV A_g.low)) := hF.1
    clear hF
    refine doesG_un rfl ?_
    obtain rfl := h7_
    refine (does_move (u := (Bo (finV A_g.low))) (ev rfl)).mono ?_; rintro _ _ ⟨rfl, rfl⟩
    exact ⟨rfl, Ext.refl _⟩
  refine RW_d _ rfl (fun v => by dsimp only [List.set]; try rfl) (fun u hu hF => ?_) (fun v26 => ?_)
  · have h8_ : v25 = (Bo (finV A_g.low)) := hF.1
    clear hF
    obtain rfl := h8_
    refine doesG_g (b := (finV A_g.low)) rfl (yld rfl rfl) (fun hg1 => ?_) (fun hc => ⟨fun hg1 => absurd hg1 hc, Ext.refl _⟩)
    refine (does_move (u := (Pt g_b g_o)) (ev rfl)).mono ?_; rintro _ _ ⟨rfl, rfl⟩
    exact ⟨fun _ => rfl, Ext.refl _⟩
  refine RW_d _ rfl (fun v => by dsimp only [List.set]; try rfl) (fun u hu hF => ?_) (fun v27 => ?_)
  · have h9_ : (finV A_g.low) = true → v26 = (Pt g_b g_o) := hF.1
    have h8_ : v25 = (Bo (finV A_g.low)) := hF.2.1
    clear hF
    obtain rfl := h8_
    refine doesG_g (b := (finV A_g.low)) rfl (yld rfl rfl) (fun hg1 => ?_) (fun hc => ⟨fun hg1 => absurd hg1 hc, Ext.refl _⟩)
    obtain rfl := h9_ hg1
    refine (does_nilCheck (ev rfl)).mono ?_; rintro _ _ ⟨rfl, rfl⟩
    exact ⟨fun _ => rfl, Ext.refl _⟩
  refine RW_d _ rfl (fun v => by dsimp only [List.set]; try rfl) (fun u hu hF => ?_) (fun v28 => ?_)
  · have h10_ : (finV A_g.low) = true → v27 = (Pt g_b g_o) := hF.1
    have h8_ : v25 = (Bo (finV A_g.low)) := hF.2.1
    clear hF
    obtain rfl := h8_
    refine doesG_g (b := (finV A_g.low)) rfl (yld rfl rfl) (fun hg1 => ?_) (fun hc => ⟨fun hg1 => absurd hg1 hc, Ext.refl _⟩)
    obtain rfl := h10_ hg1
    refine (does_fieldAddr (ev rfl) fa31_1).mono ?_; rintro _ _ ⟨rfl, rfl⟩
    exact ⟨fun _ => rfl, Ext.refl _⟩
  refine RW_d _ rfl (fun v => by dsimp only [List.set]; try rfl) (fun u hu hF => ?_) (fun v29 => ?_)
  · have h11_ : (finV A_g.low) = true → v28 = (Pt g_b (g_o + 3)) := hF.1
    have h8_ : v25 = (Bo (finV A_g.low)) := hF.2.1
    clear hF
    obtain rfl := h8_
    refine doesG_g (b := (finV A_g.low)) rfl (yld rfl rfl) (fun hg1 => ?_) (fun hc => ⟨fun hg1 => absurd hg1 hc, Ext.refl _⟩)
    obtain rfl := h11_ hg1
    refine (does_load (u := (Fl r7)) (ev rfl) Try.isAgg22 (Cells.at ((hc_g.ext (Ext.gr (Ext.refl w) E17)).ext hu) 3 rfl)).mono ?_; rintro _ _ ⟨rfl, rfl⟩
    exact ⟨fun _ => rfl, Ext.refl _⟩
  refine RW_d _ rfl (fun v => by dsimp only [List.set]; try rfl) (fun u hu hF => ?_) (fun v30 => ?_)
  · have h12_ : (finV A_g.low) = true → v29 = (Fl r7) := hF.1
    have h8_ : v25 = (Bo (finV A_g.low)) := hF.2.1
    clear hF
    obtain rfl := h8_
    refine doesG_g (b := (finV A_g.low)) rfl (yld rfl rfl) (fun hg1 => ?_) (fun hc => ⟨fun hg1 => absurd hg1 hc, Ext.refl _⟩)
    obtain rfl := h12_ hg1
    refine (does_call (args := #[(Fl r7)]) cal48 (evs rfl) (c_spec_l01Finite r7 _)).mono ?_; rintro v u' ⟨hx, hv⟩
    exact ⟨fun _ => hv, hx⟩
  refine RW_d _ rfl (fun v => by dsimp only [List.set]; try rfl) (fun u hu hF => ?_) (fun v31 => ?_)
  · have h8_ : v25 = (Bo (finV A_g.low)) := hF.1
    have h13_ : (finV A_g.low) = true → v30 = (Bo (finF (cf .f32 r7))) := hF.2.1
    clear hF
    refine doesG_un rfl ?_
    skip
    obtain rfl := h8_
    refine (does_pick (b := (finV A_g.low)) (ev rfl) (ev rfl) (ev rfl)).mono ?_; rintro _ _ ⟨rfl, rfl⟩; refine ⟨?_, Ext.refl _⟩; rw [hβ1]; skip
    cases hbb : (finV A_g.low) <;> simp [hbb] at h13_ ⊢
    all_goals (first | rfl | (subst h13_; rfl) | simp_all)
  refine RW_d _ rfl (fun v => by dsimp only [List.set]; try rfl) (fun u hu hF => ?_) (fun v32 => ?_)
  · have h14_ : v31 = (Bo β1) := hF.1
    clear hF
    refine doesG_un rfl ?_
    obtain rfl := h14_
    refine (does_move (u := (Bo β1)) (ev rfl)).mono ?_; rintro _ _ ⟨rfl, rfl⟩
    exact ⟨rfl, Ext.refl _⟩
  refine RW_d _ rfl (fun v => by dsimp only [List.set]; try rfl) (fun u hu hF => ?_) (fun v33 => ?_)
  · have h15_ : v32 = (Bo β1) := hF.1
    clear hF
    obtain rfl := h15_
    refine doesG_g (b := β1) rfl (yld rfl rfl) (fun hg1 => ?_) (fun hc => ⟨fun hg1 => absurd hg1 hc, Ext.refl _⟩)
    refine (does_move (u := (Pt g_b g_o)) (ev rfl)).mono ?_; rintro _ _ ⟨rfl, rfl⟩
    exact ⟨fun _ => rfl, Ext.refl _⟩
  refine RW_d _ rfl (fun v => by dsimp only [List.set]; try rfl) (fun u hu hF => ?_) (fun v34 => ?_)
  · have h16_ : β1 = true → v33 = (Pt g_b g_o) := hF.1
    have h15_ : v32 = (Bo β1) := hF.2.1
    clear hF
    obtain rfl := h15_
    refine doesG_g (b := β1) rfl (yld rfl rfl) (fun hg1 => ?_) (fun hc => ⟨fun hg1 => absurd hg1 hc, Ext.refl _⟩)
    obtain rfl := h16_ hg1
    refine (does_nilCheck (ev rfl)).mono ?_; rintro _ _ ⟨rfl, rfl⟩
    exact ⟨fun _ => rfl, Ext.refl _⟩
  refine RW_d _ rfl (fun v => by dsimp only [List.set]; try rfl) (fun u hu hF => ?_) (fun v35 => ?_)
  · have h17_ : β1 = true → v34 = (Pt g_b g_o) := hF.1
    have h15_ : v32 = (Bo β1) := hF.2.1
    clear hF
    obtain rfl := h15_
    refine doesG_g (b := β1) rfl (yld rfl rfl) (fun hg1 => ?_) (fun hc => ⟨fun hg1 => absurd hg1 hc, Ext.refl _⟩)
    obtain rfl := h17_ hg1
    refine (does_fieldAddr (ev rfl) fa31_1).mono ?_; rintro _ _ ⟨rfl, rfl⟩
    exact ⟨fun _ => rfl, Ext.refl _⟩
  refine RW_d _ rfl (fun v => by dsimp only [List.set]; try rfl) (fun u hu hF => ?_) (fun v36 => ?_)
  · have h18_ : β1 = true → v35 = (Pt g_b (g_o + 3)) := hF.1
    have h15_ : v32 = (Bo β1) := hF.2.1
    clear hF
    obtain rfl := h15_
    refine doesG_g (b := β1) rfl (yld rfl rfl) (fun hg1 => ?_) (fun hc => ⟨fun hg1 => absurd hg1 hc, Ext.refl _⟩)
    obtain rfl := h18_ hg1
    refine (does_load (u := (Fl r7)) (ev rfl) Try.isAgg22 (Cells.at ((hc_g.ext (Ext.gr (Ext.refl w) E17)).ext hu) 3 rfl)).mono ?_; rintro _ _ ⟨rfl, rfl⟩
    exact ⟨fun _ => rfl, Ext.refl _⟩
  refine RW_d _ rfl (fun v => by dsimp only [List.set]; try rfl) (fun u hu hF => ?_) (fun v37 => ?_)
  · have h19_ : β1 = true → v36 = (Fl r7) := hF.1
    have h15_ : v32 = (Bo β1) := hF.2.1
    clear hF
    obtain rfl := h15_
    refine doesG_g (b := β1) rfl (yld rfl rfl) (fun hg1 => ?_) (fun hc => ⟨fun hg1 => absurd hg1 hc, Ext.refl _⟩)
    obtain rfl := h19_ hg1
    refine (does_fcmp (.inr (.inr (.inr (.inr (.inl rfl))))) (ev rfl) (ev rfl)).mono ?_; rintro _ _ ⟨rfl, rfl⟩
    exact ⟨fun _ => (by first | rfl | (show _ = _; simp only [hβ2])), Ext.refl _⟩
  refine RW_d _ rfl (fun v => by dsimp only [List.set]; try rfl) (fun u hu hF => ?_) (fun v38 => ?_)
  · have h15_ : v32 = (Bo β1) := hF.1
    have h20_ : β1 = true → v37 = (Bo β2) := hF.2.1
    clear hF
    refine doesG_un rfl ?_
    skip
    obtain rfl := h15_
    refine (does_pick (b := β1) (ev rfl) (ev rfl) (ev rfl)).mono ?_; rintro _ _ ⟨rfl, rfl⟩; refine ⟨?_, Ext.refl _⟩; skip
    cases hbb : β1 <;> simp [hbb] at h20_ ⊢
    all_goals (first | rfl | (subst h20_; rfl) | simp_all)
  refine RW_d _ rfl (fun v => by dsimp only [List.set]; try rfl) (fun u hu hF => ?_) (fun v39 => ?_)
  · have h21_ : v38 = (Bo (β1 && β2)) := hF.1
    clear hF
    refine doesG_un rfl ?_
    obtain rfl := h21_
    refine (does_move (u := (Bo (β1 && β2))) (ev rfl)).mono ?_; rintro _ _ ⟨rfl, rfl⟩
    exact ⟨rfl, Ext.refl _⟩
  refine RW_d _ rfl (fun v => by dsimp only [List.set]; try rfl) (fun u hu hF => ?_) (fun v40 => ?_)
  · have h22_ : v39 = (Bo (β1 && β2)) := hF.1
    clear hF
    obtain rfl := h22_
    refine doesG_g (b := (β1 && β2)) rfl (yld rfl rfl) (fun hg1 => ?_) (fun hc => ⟨fun hg1 => absurd hg1 hc, Ext.refl _⟩)
    refine (does_move (u := (Pt g_b g_o)) (ev rfl)).mono ?_; rintro _ _ ⟨rfl, rfl⟩
    exact ⟨fun _ => rfl, Ext.refl _⟩
  refine RW_d _ rfl (fun v => by dsimp only [List.set]; try rfl) (fun u hu hF => ?_) (fun v41 => ?_)
  · have h23_ : (β1 && β2) = true → v40 = (Pt g_b g_o) := hF.1
    have h22_ : v39 = (Bo (β1 && β2)) := hF.2.1
    clear hF
    obtain rfl := h22_
    refine doesG_g (b := (β1 && β2)) rfl (yld rfl rfl) (fun hg1 => ?_) (fun hc => ⟨fun hg1 => absurd hg1 hc, Ext.refl _⟩)
    obtain rfl := h23_ hg1
    refine (does_nilCheck (ev rfl)).mono ?_; rintro _ _ ⟨rfl, rfl⟩
    exact ⟨fun _ => rfl, Ext.refl _⟩
  refine RW_d _ rfl (fun v => by dsimp only [List.set]; try rfl) (fun u hu hF => ?_) (fun v42 => ?_)
  · have h24_ : (β1 && β2) = true → v41 = (Pt g_b g_o) := hF.1
    have h22_ : v39 = (Bo (β1 && β2)) := hF.2.1
    clear hF
    obtain rfl := h22_
    refine doesG_g (b := (β1 && β2)) rfl (yld rfl rfl) (fun hg1 => ?_) (fun hc => ⟨fun hg1 => absurd hg1 hc, Ext.refl _⟩)
    obtain rfl := h24_ hg1
    refine (does_fieldAddr (ev rfl) fa31_2).mono ?_; rintro _ _ ⟨rfl, rfl⟩
    exact ⟨fun _ => rfl, Ext.refl _⟩
  refine RW_d _ rfl (fun v => by dsimp only [List.set]; try rfl) (fun u hu hF => ?_) (fun v43 => ?_)
  · have h25_ : (β1 && β2) = true → v42 = (Pt g_b (g_o + 4)) := hF.1
    have h22_ : v39 = (Bo (β1 && β2)) := hF.2.1
    clear hF
    obtain rfl := h22_
    refine doesG_g (b := (β1 && β2)) rfl (yld rfl rfl) (fun hg1 => ?_) (fun hc => ⟨fun hg1 => absurd hg1 hc, Ext.refl _⟩)
    obtain rfl := h25_ hg1
    refine (does_load (u := (Iv A_g.x)) (ev rfl) Try.isAgg2 (Cells.at ((hc_g.ext (Ext.gr (Ext.refl w) E17)).ext hu) 4 rfl)).mono ?_; rintro _ _ ⟨rfl, rfl⟩
    exact ⟨fun _ => rfl, Ext.refl _⟩
  refine RW_d _ rfl (fun v => by dsimp only [List.set]; try rfl) (fun u hu hF => ?_) (fun v44 => ?_)
  · have h22_ : v39 = (Bo (β1 && β2)) := hF.1
    clear hF
    obtain rfl := h22_
    refine doesG_g (b := (β1 && β2)) rfl (yld rfl rfl) (fun hg1 => ?_) (fun hc => ⟨fun hg1 => absurd hg1 hc, Ext.refl _⟩)
    refine (does_move (u := (Pt g_b g_o)) (ev rfl)).mono ?_; rintro _ _ ⟨rfl, rfl⟩
    exact ⟨fun _ => rfl, Ext.refl _⟩
  refine RW_d _ rfl (fun v => by dsimp only [List.set]; try rfl) (fun u hu hF => ?_) (fun v45 => ?_)
  · have h27_ : (β1 && β2) = true → v44 = (Pt g_b g_o) := hF.1
    have h22_ : v39 = (Bo (β1 && β2)) := hF.2.1
    clear hF
    obtain rfl := h22_
    refine doesG_g (b := (β1 && β2)) rfl (yld rfl rfl) (fun hg1 => ?_) (fun hc => ⟨fun hg1 => absurd hg1 hc, Ext.refl _⟩)
    obtain rfl := h27_ hg1
    refine (does_nilCheck (ev rfl)).mono ?_; rintro _ _ ⟨rfl, rfl⟩
    exact ⟨fun _ => rfl, Ext.refl _⟩
  refine RW_d _ rfl (fun v => by dsimp only [List.set]; try rfl) (fun u hu hF => ?_) (fun v46 => ?_)
  · have h28_ : (β1 && β2) = true → v45 = (Pt g_b g_o) := hF.1
    have h22_ : v39 = (Bo (β1 && β2)) := hF.2.1
    clear hF
    obtain rfl := h22_
    refine doesG_g (b := (β1 && β2)) rfl (yld rfl rfl) (fun hg1 => ?_) (fun hc => ⟨fun hg1 => absurd hg1 hc, Ext.refl _⟩)
    obtain rfl := h28_ hg1
    refine (does_fieldAddr (ev rfl) fa31_3).mono ?_; rintro _ _ ⟨rfl, rfl⟩
    exact ⟨fun _ => rfl, Ext.refl _⟩
  refine RW_d _ rfl (fun v => by dsimp only [List.set]; try rfl) (fun u hu hF => ?_) (fun v47 => ?_)
  · have h29_ : (β1 && β2) = true → v46 = (Pt g_b (g_o + 5)) := hF.1
    have h22_ : v39 = (Bo (β1 && β2)) := hF.2.1
    clear hF
    obtain rfl := h22_
    refine doesG_g (b := (β1 && β2)) rfl (yld rfl rfl) (fun hg1 => ?_) (fun hc => ⟨fun hg1 => absurd hg1 hc, Ext.refl _⟩)
    obtain rfl := h29_ hg1
    refine (does_load (u := (Iv A_g.y)) (ev rfl) Try.isAgg2 (Cells.at ((hc_g.ext (Ext.gr (Ext.refl w) E17)).ext hu) 5 rfl)).mono ?_; rintro _ _ ⟨rfl, rfl⟩
    exact ⟨fun _ => rfl, Ext.refl _⟩
  refine RW_d _ rfl (fun v => by dsimp only [List.set]; try rfl) (fun u hu hF => ?_) (fun v48 => ?_)
  · have h22_ : v39 = (Bo (β1 && β2)) := hF.1
    clear hF
    obtain rfl := h22_
    refine doesG_g (b := (β1 && β2)) rfl (yld rfl rfl) (fun hg1 => ?_) (fun hc => ⟨fun hg1 => absurd hg1 hc, Ext.refl _⟩)
    refine (does_move (u := (Pt g_b g_o)) (ev rfl)).mono ?_; rintro _ _ ⟨rfl, rfl⟩
    exact ⟨fun _ => rfl, Ext.refl _⟩
  refine RW_d _ rfl (fun v => by dsimp only [List.set]; try rfl) (fun u hu hF => ?_) (fun v49 => ?_)
  · have h31_ : (β1 && β2) = true → v48 = (Pt g_b g_o) := hF.1
    have h22_ : v39 = (Bo (β1 && β2)) := hF.2.1
    clear hF
    obtain rfl := h22_
    refine doesG_g (b := (β1 && β2)) rfl (yld rfl rfl) (fun hg1 => ?_) (fun hc => ⟨fun hg1 => absurd hg1 hc, Ext.refl _⟩)
    obtain rfl := h31_ hg1
    refine (does_nilCheck (ev rfl)).mono ?_; rintro _ _ ⟨rfl, rfl⟩
    exact ⟨fun _ => rfl, Ext.refl _⟩
  refine RW_d _ rfl (fun v => by dsimp only [List.set]; try rfl) (fun u hu hF => ?_) (fun v50 => ?_)
  · have h32_ : (β1 && β2) = true → v49 = (Pt g_b g_o) := hF.1
    have h22_ : v39 = (Bo (β1 && β2)) := hF.2.1
    clear hF
    obtain rfl := h22_
    refine doesG_g (b := (β1 && β2)) rfl (yld rfl rfl) (fun hg1 => ?_) (fun hc => ⟨fun hg1 => absurd hg1 hc, Ext.refl _⟩)
    obtain rfl := h32_ hg1
    refine (does_fieldAddr (ev rfl) fa31_4).mono ?_; rintro _ _ ⟨rfl, rfl⟩
    exact ⟨fun _ => rfl, Ext.refl _⟩
  refine RW_d _ rfl (fun v => by dsimp only [List.set]; try rfl) (fun u hu hF => ?_) (fun v51 => ?_)
  · have h33_ : (β1 && β2) = true → v50 = (Pt g_b (g_o + 6)) := hF.1
    have h22_ : v39 = (Bo (β1 && β2)) := hF.2.1
    clear hF
    obtain rfl := h22_
    refine doesG_g (b := (β1 && β2)) rfl (yld rfl rfl) (fun hg1 => ?_) (fun hc => ⟨fun hg1 => absurd hg1 hc, Ext.refl _⟩)
    obtain rfl := h33_ hg1
    refine (does_load (u := (Iv A_g.z)) (ev rfl) Try.isAgg2 (Cells.at ((hc_g.ext (Ext.gr (Ext.refl w) E17)).ext hu) 6 rfl)).mono ?_; rintro _ _ ⟨rfl, rfl⟩
    exact ⟨fun _ => rfl, Ext.refl _⟩
  refine RW_d _ rfl (fun v => by dsimp only [List.set]; try rfl) (fun u hu hF => ?_) (fun v52 => ?_)
  · have h26_ : (β1 && β2) = true → v43 = (Iv A_g.x) := hF.1
    have h30_ : (β1 && β2) = true → v47 = (Iv A_g.y) := hF.2.1
    have h34_ : (β1 && β2) = true → v51 = (Iv A_g.z) := hF.2.2.1
    have h22_ : v39 = (Bo (β1 && β2)) := hF.2.2.2.1
    clear hF
    obtain rfl := h22_
    refine doesG_g (b := (β1 && β2)) rfl (yld rfl rfl) (fun hg1 => ?_) (fun hc => ⟨fun hg1 => absurd hg1 hc, Ext.refl _⟩)
    obtain rfl := h26_ hg1
    obtain rfl := h30_ hg1
    obtain rfl := h34_ hg1
    refine (does_call (args := #[(Iv A_g.x), (Iv A_g.y), (Iv A_g.z)]) cal49 (evs rfl) (c_spec_l06Counts A_g.x A_g.y A_g.z _)).mono ?_; rintro v u' ⟨hx, hv⟩
    exact ⟨fun _ => hv, hx⟩
  refine RW_d _ rfl (fun v => by dsimp only [List.set]; try rfl) (fun u hu hF => ?_) (fun v53 => ?_)
  · have h22_ : v39 = (Bo (β1 && β2)) := hF.1
    have h35_ : (β1 && β2) = true → v52 = (Bo (cntOk A_g.x A_g.y A_g.z)) := hF.2.1
    clear hF
    refine doesG_un rfl ?_
    skip
    obtain rfl := h22_
    refine (does_pick (b := (β1 && β2)) (ev rfl) (ev rfl) (ev rfl)).mono ?_; rintro _ _ ⟨rfl, rfl⟩; refine ⟨?_, Ext.refl _⟩; rw [hβ3]; skip
    cases hbb : (β1 && β2) <;> simp [hbb] at h35_ ⊢
    all_goals (first | rfl | (subst h35_; rfl) | simp_all)
  refine RW_d _ rfl (fun v => by dsimp only [List.set]; try rfl) (fun u hu hF => ?_) (fun v54 => ?_)
  · have h36_ : v53 = (Bo β3) := hF.1
    clear hF
    refine doesG_un rfl ?_
    obtain rfl := h36_
    refine (does_move (u := (Bo β3)) (ev rfl)).mono ?_; rintro _ _ ⟨rfl, rfl⟩
    exact ⟨rfl, Ext.refl _⟩
  refine RW_d _ rfl (fun v => by dsimp only [List.set]; try rfl) (fun u hu hF => ?_) (fun v55 => ?_)
  · have h37_ : v54 = (Bo β3) := hF.1
    clear hF
    obtain rfl := h37_
    refine doesG_g (b := β3) rfl (yld rfl rfl) (fun hg1 => ?_) (fun hc => ⟨fun hg1 => absurd hg1 hc, Ext.refl _⟩)
    refine (does_move (u := (Pt g_b g_o)) (ev rfl)).mono ?_; rintro _ _ ⟨rfl, rfl⟩
    exact ⟨fun _ => rfl, Ext.refl _⟩
  refine RW_d _ rfl (fun v => by dsimp only [List.set]; try rfl) (fun u hu hF => ?_) (fun v56 => ?_)
  · have h38_ : β3 = true → v55 = (Pt g_b g_o) := hF.1
    have h37_ : v54 = (Bo β3) := hF.2.1
    clear hF
    obtain rfl := h37_
    refine doesG_g (b := β3) rfl (yld rfl rfl) (fun hg1 => ?_) (fun hc => ⟨fun hg1 => absurd hg1 hc, Ext.refl _⟩)
    obtain rfl := h38_ hg1
    refine (does_nilCheck (ev rfl)).mono ?_; rintro _ _ ⟨rfl, rfl⟩
    exact ⟨fun _ => rfl, Ext.refl _⟩
  refine RW_d _ rfl (fun v => by dsimp only [List.set]; try rfl) (fun u hu hF => ?_) (fun v57 => ?_)
  · have h39_ : β3 = true → v56 = (Pt g_b g_o) := hF.1
    have h37_ : v54 = (Bo β3) := hF.2.1
    clear hF
    obtain rfl := h37_
    refine doesG_g (b := β3) rfl (yld rfl rfl) (fun hg1 => ?_) (fun hc => ⟨fun hg1 => absurd hg1 hc, Ext.refl _⟩)
    obtain rfl := h39_ hg1
    refine (does_fieldAddr (ev rfl) fa31_5).mono ?_; rintro _ _ ⟨rfl, rfl⟩
    exact ⟨fun _ => rfl, Ext.refl _⟩
  refine RW_d _ rfl (fun v => by dsimp only [List.set]; try rfl) (fun u hu hF => ?_) (fun v58 => ?_)
  · have h40_ : β3 = true → v57 = (Pt g_b (g_o + 7)) := hF.1
    have h37_ : v54 = (Bo β3) := hF.2.1
    clear hF
    obtain rfl := h37_
    refine doesG_g (b := β3) rfl (yld rfl rfl) (fun hg1 => ?_) (fun hc => ⟨fun hg1 => absurd hg1 hc, Ext.refl _⟩)
    obtain rfl := h40_ hg1
    refine (does_load (u := (.slice p11 A_g.vals.length q12)) (ev rfl) Try.isAgg25 (Cells.at ((hc_g.ext (Ext.gr (Ext.refl w) E17)).ext hu) 7 rfl)).mono ?_; rintro _ _ ⟨rfl, rfl⟩
    exact ⟨fun _ => rfl, Ext.refl _⟩
  refine RW_d _ rfl (fun v => by dsimp only [List.set]; try rfl) (fun u hu hF => ?_) (fun v59 => ?_)
  · have h41_ : β3 = true → v58 = (.slice p11 A_g.vals.length q12) := hF.1
    have h37_ : v54 = (Bo β3) := hF.2.1
    clear hF
    obtain rfl := h37_
    refine doesG_g (b := β3) rfl (yld rfl rfl) (fun hg1 => ?_) (fun hc => ⟨fun hg1 => absurd hg1 hc, Ext.refl _⟩)
    obtain rfl := h41_ hg1
    refine (does_len_slice Try.underlying25 (ev rfl)).mono ?_; rintro _ _ ⟨rfl, rfl⟩
    exact ⟨fun _ => rfl, Ext.refl _⟩
  refine RW_d _ rfl (fun v => by dsimp only [List.set]; try rfl) (fun u hu hF => ?_) (fun v60 => ?_)
  · have h37_ : v54 = (Bo β3) := hF.1
    clear hF
    obtain rfl := h37_
    refine doesG_g (b := β3) rfl (yld rfl rfl) (fun hg1 => ?_) (fun hc => ⟨fun hg1 => absurd hg1 hc, Ext.refl _⟩)
    refine (does_move (u := (Pt g_b g_o)) (ev rfl)).mono ?_; rintro _ _ ⟨rfl, rfl⟩
    exact ⟨fun _ => rfl, Ext.refl _⟩
  refine RW_d _ rfl (fun v => by dsimp only [List.set]; try rfl) (fun u hu hF => ?_) (fun v61 => ?_)
  · have h43_ : β3 = true → v60 = (Pt g_b g_o) := hF.1
    have h37_ : v54 = (Bo β3) := hF.2.1
    clear hF
    obtain rfl := h37_
    refine doesG_g (b := β3) rfl (yld rfl rfl) (fun hg1 => ?_) (fun hc => ⟨fun hg1 => absurd hg1 hc, Ext.refl _⟩)
    obtain rfl := h43_ hg1
    refine (does_nilCheck (ev rfl)).mono ?_; rintro _ _ ⟨rfl, rfl⟩
    exact ⟨fun _ => rfl, Ext.refl _⟩
  refine RW_d _ rfl (fun v => by dsimp only [List.set]; try rfl) (fun u hu hF => ?_) (fun v62 => ?_)
  · have h44_ : β3 = true → v61 = (Pt g_b g_o) := hF.1
    have h37_ : v54 = (Bo β3) := hF.2.1
    clear hF
    obtain rfl := h37_
    refine doesG_g (b := β3) rfl (yld rfl rfl) (fun hg1 => ?_) (fun hc => ⟨fun hg1 => absurd hg1 hc, Ext.refl _⟩)
    obtain rfl := h44_ hg1
    refine (does_fieldAddr (ev rfl) fa31_2).mono ?_; rintro _ _ ⟨rfl, rfl⟩
    exact ⟨fun _ => rfl, Ext.refl _⟩
  refine RW_d _ rfl (fun v => by dsimp only [List.set]; try rfl) (fun u hu hF => ?_) (fun v63 => ?_)
  · have h45_ : β3 = true → v62 = (Pt g_b (g_o + 4)) := hF.1
    have h37_ : v54 = (Bo β3) := hF.2.1
    clear hF
    obtain rfl := h37_
    refine doesG_g (b := β3) rfl (yld rfl rfl) (fun hg1 => ?_) (fun hc => ⟨fun hg1 => absurd hg1 hc, Ext.refl _⟩)
    obtain rfl := h45_ hg1
    refine (does_load (u := (Iv A_g.x)) (ev rfl) Try.isAgg2 (Cells.at ((hc_g.ext (Ext.gr (Ext.refl w) E17)).ext hu) 4 rfl)).mono ?_; rintro _ _ ⟨rfl, rfl⟩
    exact ⟨fun _ => rfl, Ext.refl _⟩
  refine RW_d _ rfl (fun v => by dsimp only [List.set]; try rfl) (fun u hu hF => ?_) (fun v64 => ?_)
  · have h37_ : v54 = (Bo β3) := hF.1
    clear hF
    obtain rfl := h37_
    refine doesG_g (b := β3) rfl (yld rfl rfl) (fun hg1 => ?_) (fun hc => ⟨fun hg1 => absurd hg1 hc, Ext.refl _⟩)
    refine (does_move (u := (Pt g_b g_o)) (ev rfl)).mono ?_; rintro _ _ ⟨rfl, rfl⟩
    exact ⟨fun _ => rfl, Ext.refl _⟩
  refine RW_d _ rfl (fun v => by dsimp only [List.set]; try rfl) (fun u hu hF => ?_) (fun v65 => ?_)
  · have h47_ : β3 = true → v64 = (Pt g_b g_o) := hF.1
    have h37_ : v54 = (Bo β3) := hF.2.1
    clear hF
    obtain rfl := h37_
    refine doesG_g (b := β3) rfl (yld rfl rfl) (fun hg1 => ?_) (fun hc => ⟨fun hg1 => absurd hg1 hc, Ext.refl _⟩)
    obtain rfl := h47_ hg1
    refine (does_nilCheck (ev rfl)).mono ?_; rintro _ _ ⟨rfl, rfl⟩
    exact ⟨fun _ => rfl, Ext.refl _⟩
  refine RW_d _ rfl (fun v => by dsimp only [List.set]; try rfl) (fun u hu hF => ?_) (fun v66 => ?_)
  · have h48_ : β3 = true → v65 = (Pt g_b g_o) := hF.1
    have h37_ : v54 = (Bo β3) := hF.2.1
    clear hF
    obtain rfl := h37_
    refine doesG_g (b := β3) rfl (yld rfl rfl) (fun hg1 => ?_) (fun hc => ⟨fun hg1 => absurd hg1 hc, Ext.refl _⟩)
    obtain rfl := h48_ hg1
    refine (does_fieldAddr (ev rfl) fa31_3).mono ?_; rintro _ _ ⟨rfl, rfl⟩
    exact ⟨fun _ => rfl, Ext.refl _⟩
  refine RW_d _ rfl (fun v => by dsimp only [List.set]; try rfl) (fun u hu hF => ?_) (fun v67 => ?_)
  · have h49_ : β3 = true → v66 = (Pt g_b (g_o + 5)) := hF.1
    have h37_ : v54 = (Bo β3) := hF.2.1
    clear hF
    obtain rfl := h37_
    refine doesG_g (b := β3) rfl (yld rfl rfl) (fun hg1 => ?_) (fun hc => ⟨fun hg1 => absurd hg1 hc, Ext.refl _⟩)
    obtain rfl := h49_ hg1
    refine (does_load (u := (Iv A_g.y)) (ev rfl) Try.isAgg2 (Cells.at ((hc_g.ext (Ext.gr (Ext.refl w) E17)).ext hu) 5 rfl)).mono ?_; rintro _ _ ⟨rfl, rfl⟩
    exact ⟨fun _ => rfl, Ext.refl _⟩
  refine RW_d _ rfl (fun v => by dsimp only [List.set]; try rfl) (fun u hu hF => ?_) (fun v68 => ?_)
  · have h46_ : β3 = true → v63 = (Iv A_g.x) := hF.1
    have h50_ : β3 = true → v67 = (Iv A_g.y) := hF.2.1
    have h37_ : v54 = (Bo β3) := hF.2.2.1
    clear hF
    obtain rfl := h37_
    refine doesG_g (b := β3) rfl (yld rfl rfl) (fun hg1 => ?_) (fun hc => ⟨fun hg1 => absurd hg1 hc, Ext.refl _⟩)
    obtain rfl := h46_ hg1
    obtain rfl := h50_ hg1
    refine (does_iarith (p := A_g.x) (q := A_g.y) (r := IntKind.i64.wrap (A_g.x * A_g.y)) (ev rfl) (ev rfl) (.inr (.inr ⟨rfl, rfl⟩))).mono ?_; rintro _ _ ⟨rfl, rfl⟩
    exact ⟨fun _ => rfl, Ext.refl _⟩
  refine RW_d _ rfl (fun v => by dsimp only [List.set]; try rfl) (fun u hu hF => ?_) (fun v69 => ?_)
  · have h37_ : v54 = (Bo β3) := hF.1
    clear hF
    obtain rfl := h37_
    refine doesG_g (b := β3) rfl (yld rfl rfl) (fun hg1 => ?_) (fun hc => ⟨fun hg1 => absurd hg1 hc, Ext.refl _⟩)
    refine (does_move (u := (Pt g_b g_o)) (ev rfl)).mono ?_; rintro _ _ ⟨rfl, rfl⟩
    exact ⟨fun _ => rfl, Ext.refl _⟩
  refine RW_d _ rfl (fun v => by dsimp only [List.set]; try rfl) (fun u hu hF => ?_) (fun v70 => ?_)
  · have h52_ : β3 = true → v69 = (Pt g_b g_o) := hF.1
    have h37_ : v54 = (Bo β3) := hF.2.1
    clear hF
    obtain rfl := h37_
    refine doesG_g (b := β3) rfl (yld rfl rfl) (fun hg1 => ?_) (fun hc => ⟨fun hg1 => absurd hg1 hc, Ext.refl _⟩)
    obtain rfl := h52_ hg1
    refine (does_nilCheck (ev rfl)).mono ?_; rintro _ _ ⟨rfl, rfl⟩
    exact ⟨fun _ => rfl, Ext.refl _⟩
  refine RW_d _ rfl (fun v => by dsimp only [List.set]; try rfl) (fun u hu hF => ?_) (fun v71 => ?_)
  · have h53_ : β3 = true → v70 = (Pt g_b g_o) := hF.1
    have h37_ : v54 = (Bo β3) := hF.2.1
    clear hF
    obtain rfl := h37_
    refine doesG_g (b := β3) rfl (yld rfl rfl) (fun hg1 => ?_) (fun hc => ⟨fun hg1 => absurd hg1 hc, Ext.refl _⟩)
    obtain rfl := h53_ hg1
    refine (does_fieldAddr (ev rfl) fa31_4).mono ?_; rintro _ _ ⟨rfl, rfl⟩
    exact ⟨fun _ => rfl, Ext.refl _⟩
  refine RW_d _ rfl (fun v => by dsimp only [List.set]; try rfl) (fun u hu hF => ?_) (fun v72 => ?_)
  · have h54_ : β3 = true → v71 = (Pt g_b (g_o + 6)) := hF.1
    have h37_ : v54 = (Bo β3) := hF.2.1
    clear hF
    obtain rfl := h37_
    refine doesG_g (b := β3) rfl (yld rfl rfl) (fun hg1 => ?_) (fun hc => ⟨fun hg1 => absurd hg1 hc, Ext.refl _⟩)
    obtain rfl := h54_ hg1
    refine (does_load (u := (Iv A_g.z)) (ev rfl) Try.isAgg2 (Cells.at ((hc_g.ext (Ext.gr (Ext.refl w) E17)).ext hu) 6 rfl)).mono ?_; rintro _ _ ⟨rfl, rfl⟩
    exact ⟨fun _ => rfl, Ext.refl _⟩
  refine RW_d _ rfl (fun v => by dsimp only [List.set]; try rfl) (fun u hu hF => ?_) (fun v73 => ?_)
  · have h51_ : β3 = true → v68 = (Iv (IntKind.i64.wrap (A_g.x * A_g.y))) := hF.1
    have h55_ : β3 = true → v72 = (Iv A_g.z) := hF.2.1
    have h37_ : v54 = (Bo β3) := hF.2.2.1
    clear hF
    obtain rfl := h37_
    refine doesG_g (b := β3) rfl (yld rfl rfl) (fun hg1 => ?_) (fun hc => ⟨fun hg1 => absurd hg1 hc, Ext.refl _⟩)
    obtain rfl := h51_ hg1
    obtain rfl := h55_ hg1
    refine (does_iarith (p := IntKind.i64.wrap (A_g.x * A_g.y)) (q := A_g.z) (r := IntKind.i64.wrap ((IntKind.i64.wrap (A_g.x * A_g.y)) * A_g.z)) (ev rfl) (ev rfl) (.inr (.inr ⟨rfl, rfl⟩))).mono ?_; rintro _ _ ⟨rfl, rfl⟩
    exact ⟨fun _ => rfl, Ext.refl _⟩
  refine RW_d _ rfl (fun v => by dsimp only [List.set]; try rfl) (fun u hu hF => ?_) (fun v74 => ?_)
  · have h42_ : β3 = true → v59 = (Iv (A_g.vals.length : Int)) := hF.1
    have h56_ : β3 = true → v73 = (Iv (IntKind.i64.wrap ((IntKind.i64.wrap (A_g.x * A_g.y)) * A_g.z))) := hF.2.1
    have h37_ : v54 = (Bo β3) := hF.2.2.1
    clear hF
    obtain rfl := h37_
    refine doesG_g (b := β3) rfl (yld rfl rfl) (fun hg1 => ?_) (fun hc => ⟨fun hg1 => absurd hg1 hc, Ext.refl _⟩)
    obtain rfl := h42_ hg1
    obtain rfl := h56_ hg1
    refine (does_icmp (p := (A_g.vals.length : Int)) (q := IntKind.i64.wrap ((IntKind.i64.wrap (A_g.x * A_g.y)) * A_g.z)) (.inl rfl) (ev rfl) (ev rfl)).mono ?_; rintro _ _ ⟨rfl, rfl⟩
    exact ⟨fun _ => (by first | rfl | (show _ = _; simp only [hβ4])), Ext.refl _⟩
  refine RW_d _ rfl (fun v => by dsimp only [List.set]; try rfl) (fun u hu hF => ?_) (fun v75 => ?_)
  · have h37_ : v54 = (Bo β3) := hF.1
    have h57_ : β3 = true → v74 = (Bo β4) := hF.2.1
    clear hF
    refine doesG_un rfl ?_
    skip
    obtain rfl := h37_
    refine (does_pick (b := β3) (ev rfl) (ev rfl) (ev rfl)).mono ?_; rintro _ _ ⟨rfl, rfl⟩; refine ⟨?_, Ext.refl _⟩; skip
    cases hbb : β3 <;> simp [hbb] at h57_ ⊢
    all_goals (first | rfl | (subst h57_; rfl) | simp_all)
  refine RW_fin ?_; intro w76 E77 hP78
  obtain ⟨⟨⟨⟨⟨⟨⟨⟨⟨⟨⟨⟨⟨⟨⟨⟨⟨⟨⟨⟨⟨⟨⟨⟨⟨⟨⟨⟨⟨⟨⟨⟨⟨⟨⟨⟨⟨⟨⟨⟨⟨⟨⟨⟨⟨⟨⟨⟨⟨⟨⟨⟨⟨⟨⟨⟨-, -⟩, -⟩, -⟩, -⟩, -⟩, -⟩, -⟩, -⟩, -⟩, -⟩, -⟩, -⟩, -⟩, -⟩, -⟩, -⟩, -⟩, -⟩, -⟩, -⟩, -⟩, -⟩, -⟩, -⟩, -⟩, -⟩, -⟩, -⟩, -⟩, -⟩, -⟩, -⟩, -⟩, -⟩, -⟩, -⟩, -⟩, -⟩, -⟩, -⟩, -⟩, -⟩, -⟩, -⟩, -⟩, -⟩, -⟩, -⟩, -⟩, -⟩, -⟩, -⟩, -⟩, -⟩, -⟩, q79⟩ := hP78
  have X80 := Ext.gr X19 E77
  have q79 : v75 = (Bo (β3 && β4)) := q79
  obtain rfl := q79
  show wpList _ _ _ _ (fr [(Pt g_b g_o), Ud, (Bo false), v20, v21, v22, v23, v24, v25, v26, v27, v28, v29, v30, v31, v32, v33, v34, v35, v36, v37, v38, v39, v40, v41, v42, v43, v44, v45, v46, v47, v48, v49, v50, v51, v52, v53, v54, v55, v56, v57, v58, v59, v60, v61, v62, v63, v64, v65, v66, v67, v68, v69, v70, v71, v72, v73, v74, (Bo (β3 && β4))]) _
  refine q_is rfl rfl (does_assign (u := (Bo (β3 && β4))) (ev rfl)) (by dsimp only [List.set]; try rfl) ?_
  refine wpList_nil (hK15 _ _ ?_)
  refine wp_ret ?_
  refine ret_val (v := (Bo (β3 && β4))) (res_T rfl (slot rfl)) X80 ?_
  have x81 : (isGrid A_g) = (β3 && β4) := by first | with_reducible rfl | (simp only [isGrid, prod3, posF, h2, h4, h6, h8, hβ1, hβ2, hβ3, hβ4]; done) | (simp [isGrid, prod3, posF, h2, h4, h6, h8, hβ1, hβ2, hβ3, hβ4]; done) | rfl
  exact (by first | rfl | rw [x81])

/- spec.l06Index -/
theorem c_spec_l06Index (g_b : Nat) (g_o : Nat) (g : List Value) (A_g : GridT) (x : Int) (y : Int) (z : Int) (w : World) (hc_g : Cells w g_b g_o g) (hv_g : RGridT w A_g g) : Gives Try.prog 25 #[(Pt g_b g_o), (Iv x), (Iv y), (Iv z)] w (fun v w' => v = (Iv (idxG A_g x y z))) := by
  obtain ⟨r1, r3, r5, r7, y9, rfl, h2, h4, h6, h8, h10⟩ := hv_g
  have hs13 := h10; have hs13l := Sl.len h10; obtain ⟨p11, q12, rfl⟩ := Sl.shape h10
  refine enter [(Pt g_b g_o), (Iv x), (Iv y), (Iv z), Ud, Ud, Ud, Ud, Ud, Ud, Ud, Ud, Ud, Ud, Ud, Ud, Ud, Ud, Ud, Ud, Ud, Ud, Ud, Ud] Try.func25 rfl Try.ntmps25 rfl ?_
  refine wp_seq_k fun K14 hK14 => ?_
  refine wp_region_lit ?_
  refine q_is rfl rfl (does_assign (u := (Iv 0)) (ev rfl)) (by dsimp only [List.set]; try rfl) ?_
  refine wpList_nil (hK14 _ _ ?_)
  refine wp_seq_k fun K15 hK15 => ?_
  refine region_draw (
    [Fact.pure [] (fun v => v = (Iv x)),
    Fact.pure [] (fun v => v = (Pt g_b g_o)),
    Fact.pure [10] (fun v => v = (Pt g_b g_o)),
    Fact.pure [11] (fun v => v = (Pt g_b (g_o + 4))),
    Fact.pure [12] (fun v => v = (Iv A_g.x)),
    Fact.pure [] (fun v => v = (Iv y)),
    Fact.pure [] (fun v => v = (Pt g_b g_o)),
    Fact.pure [15] (fun v => v = (Pt g_b g_o)),
    Fact.pure [16] (fun v => v = (Pt g_b (g_o + 5))),
    Fact.pure [17] (fun v => v = (Iv A_g.y)),
    Fact.pure [] (fun v => v = (Iv z)),
    Fact.pure [18, 19] (fun v => v = (Iv (IntKind.i64.wrap (A_g.y * z)))),
    Fact.pure [14, 20] (fun v => v = (Iv (IntKind.i64.wrap (y + (IntKind.i64.wrap (A_g.y * z)))))),
    Fact.pure [13, 21] (fun v => v = (Iv (IntKind.i64.wrap (A_g.x * (IntKind.i64.wrap (y + (IntKind.i64.wrap (A_g.y * z)))))))),
    Fact.pure [9, 22] (fun v => v = (Iv (IntKind.i64.wrap (x + (IntKind.i64.wrap (A_g.x * (IntKind.i64.wrap (y + (IntKind.i64.wrap (A_g.y * z))))))))))]) mixed (by kernel_rfl) (by intro _ _ d _ _ h; cases d <;> exact h) ?_
  obtain ⟨w16, hw18⟩ : ∃ w', w' = World.drew w := ⟨_, rfl⟩; rw [← hw18]; have E17 : Ext w w16 := by rw [hw18]; exact Ext.draw _
  clear hw18
  have X19 := Ext.gr (Ext.refl w) E17
  refine RW_d _ rfl (fun v => by dsimp only [List.set]; try rfl) (fun u hu hF => ?_) (fun v20 => ?_)
  · clear hF
    refine doesG_un rfl ?_
    refine (does_move (u := (Iv x)) (ev rfl)).mono ?_; rintro _ _ ⟨rfl, rfl⟩
    exact ⟨rfl, Ext.refl _⟩
  refine RW_d _ rfl (fun v => by dsimp only [List.set]; try rfl) (fun u hu hF => ?_) (fun v21 => ?_)
  · clear hF
    refine doesG_un rfl ?_
    refine (does_move (u := (Pt g_b g_o)) (ev rfl)).mono ?_; rintro _ _ ⟨rfl, rfl⟩
    exact ⟨rfl, Ext.refl _⟩
  refine RW_d _ rfl (fun v => by dsimp only [List.set]; try rfl) (fun u hu hF => ?_) (fun v22 => ?_)
  · have h10_ : v21 = (Pt g_b g_o) := hF.1
    clear hF
    refine doesG_un rfl ?_
    obtain rfl := h10_
    refine (does_nilCheck (ev rfl)).mono ?_; rintro _ _ ⟨rfl, rfl⟩
    exact ⟨rfl, Ext.refl _⟩
  refine RW_d _ rfl (fun v => by dsimp only [List.set]; try rfl) (fun u hu hF => ?_) (fun v23 => ?_)
  · have h11_ : v22 = (Pt g_b g_o) := hF.1
    clear hF
    refine doesG_un rfl ?_
    obtain rfl := h11_
    refine (does_fieldAddr (ev rfl) fa31_2).mono ?_; rintro _ _ ⟨rfl, rfl⟩
    exact ⟨rfl, Ext.refl _⟩
  refine RW_d _ rfl (fun v => by dsimp only [List.set]; try rfl) (fun u hu hF => ?_) (fun v24 => ?_)
  · have h12_ : v23 = (Pt g_b (g_o + 4)) := hF.1
    clear hF
    refine doesG_un rfl ?_
    obtain rfl := h12_
    refine (does_load (u := (Iv A_g.x)) (ev rfl) Try.isAgg2 (Cells.at ((hc_g.ext (Ext.gr (Ext.refl w) E17)).ext hu) 4 rfl)).mono ?_; rintro _ _ ⟨rfl, rfl⟩
    exact ⟨rfl, Ext.refl _⟩
  refine RW_d _ rfl (fun v => by dsimp only [List.set]; try rfl) (fun u hu hF => ?_) (fun v25 => ?_)
  · clear hF
    refine doesG_un rfl ?_
    refine (does_move (u := (Iv y)) (ev rfl)).mono ?_; rintro _ _ ⟨rfl, rfl⟩
    exact ⟨rfl, Ext.refl _⟩
  refine RW_d _ rfl (fun v => by dsimp only [List.set]; try rfl) (fun u hu hF => ?_) (fun v26 => ?_)
  · clear hF
    refine doesG_un rfl ?_
    refine (does_move (u := (Pt g_b g_o)) (ev rfl)).mono ?_; rintro _ _ ⟨rfl, rfl⟩
    exact ⟨rfl, Ext.refl _⟩
  refine RW_d _ rfl (fun v => by dsimp only [List.set]; try rfl) (fun u hu hF => ?_) (fun v27 => ?_)
  · have h15_ : v26 = (Pt g_b g_o) := hF.1
    clear hF
    refine doesG_un rfl ?_
    obtain rfl := h15_
    refine (does_nilCheck (ev rfl)).mono ?_; rintro _ _ ⟨rfl, rfl⟩
    exact ⟨rfl, Ext.refl _⟩
  refine RW_d _ rfl (fun v => by dsimp only [List.set]; try rfl) (fun u hu hF => ?_) (fun v28 => ?_)
  · have h16_ : v27 = (Pt g_b g_o) := hF.1
    clear hF
    refine doesG_un rfl ?_
    obtain rfl := h16_
    refine (does_fieldAddr (ev rfl) fa31_3).mono ?_; rintro _ _ ⟨rfl, rfl⟩
    exact ⟨rfl, Ext.refl _⟩
  refine RW_d _ rfl (fun v => by dsimp only [List.set]; try rfl) (fun u hu hF => ?_) (fun v29 => ?_)
  · have h17_ : v28 = (Pt g_b (g_o + 5)) := hF.1
    clear hF
    refine doesG_un rfl ?_
    obtain rfl := h17_
    refine (does_load (u := (Iv A_g.y)) (ev rfl) Try.isAgg2 (Cells.at ((hc_g.ext (Ext.gr (Ext.refl w) E17)).ext hu) 5 rfl)).mono ?_; rintro _ _ ⟨rfl, rfl⟩
    exact ⟨rfl, Ext.refl _⟩
  refine RW_d _ rfl (fun v => by dsimp only [List.set]; try rfl) (fun u hu hF => ?_) (fun v30 => ?_)
  · clear hF
    refine doesG_un rfl ?_
    refine (does_move (u := (Iv z)) (ev rfl)).mono ?_; rintro _ _ ⟨rfl, rfl⟩
    exact ⟨rfl, Ext.refl _⟩
  refine RW_d _ rfl (fun v => by dsimp only [List.set]; try rfl) (fun u hu hF => ?_) (fun v31 => ?_)
  · have h18_ : v29 = (Iv A_g.y) := hF.1
    have h19_ : v30 = (Iv z) := hF.2.1
    clear hF
    refine doesG_un rfl ?_
    obtain rfl := h18_
    obtain rfl := h19_
    refine (does_iarith (p := A_g.y) (q := z) (r := IntKind.i64.wrap (A_g.y * z)) (ev rfl) (ev rfl) (.inr (.inr ⟨rfl, rfl⟩))).mono ?_; rintro _ _ ⟨rfl, rfl⟩
    exact ⟨rfl, Ext.refl _⟩
  refine RW_d _ rfl (fun v => by dsimp only [List.set]; try rfl) (fun u hu hF => ?_) (fun v32 => ?_)
  · have h14_ : v25 = (Iv y) := hF.1
    have h20_ : v31 = (Iv (IntKind.i64.wrap (A_g.y * z))) := hF.2.1
    clear hF
    refine doesG_un rfl ?_
    obtain rfl := h14_
    obtain rfl := h20_
    refine (does_iarith (p := y) (q := IntKind.i64.wrap (A_g.y * z)) (r := IntKind.i64.wrap (y + (IntKind.i64.wrap (A_g.y * z)))) (ev rfl) (ev rfl) (.inl ⟨rfl, rfl⟩)).mono ?_; rintro _ _ ⟨rfl, rfl⟩
    exact ⟨rfl, Ext.refl _⟩
  refine RW_d _ rfl (fun v => by dsimp only [List.set]; try rfl) (fun u hu hF => ?_) (fun v33 => ?_)
  · have h13_ : v24 = (Iv A_g.x) := hF.1
    have h21_ : v32 = (Iv (IntKind.i64.wrap (y + (IntKind.i64.wrap (A_g.y * z))))) := hF.2.1
    clear hF
    refine doesG_un rfl ?_
    obtain rfl := h13_
    obtain rfl := h21_
    refine (does_iarith (p := A_g.x) (q := IntKind.i64.wrap (y + (IntKind.i64.wrap (A_g.y * z)))) (r := IntKind.i64.wrap (A_g.x * (IntKind.i64.wrap (y + (IntKind.i64.wrap (A_g.y * z)))))) (ev rfl) (ev rfl) (.inr (.inr ⟨rfl, rfl⟩))).mono ?_; rintro _ _ ⟨rfl, rfl⟩
    exact ⟨rfl, Ext.refl _⟩
  refine RW_d _ rfl (fun v => by dsimp only [List.set]; try rfl) (fun u hu hF => ?_) (fun v34 => ?_)
  · have h9_ : v20 = (Iv x) := hF.1
    have h22_ : v33 = (Iv (IntKind.i64.wrap (A_g.x * (IntKind.i64.wrap (y + (IntKind.i64.wrap (A_g.y * z))))))) := hF.2.1
    clear hF
    refine doesG_un rfl ?_
    obtain rfl := h9_
    obtain rfl := h22_
    refine (does_iarith (p := x) (q := IntKind.i64.wrap (A_g.x * (IntKind.i64.wrap (y + (IntKind.i64.wrap (A_g.y * z)))))) (r := IntKind.i64.wrap (x + (IntKind.i64.wrap (A_g.x * (IntKind.i64.wrap (y + (IntKind.i64.wrap (A_g.y * z)))))))) (ev rfl) (ev rfl) (.inl ⟨rfl, rfl⟩)).mono ?_; rintro _ _ ⟨rfl, rfl⟩
    exact ⟨rfl, Ext.refl _⟩
  refine RW_fin ?_; intro w35 E36 hP37
  obtain ⟨⟨⟨⟨⟨⟨⟨⟨⟨⟨⟨⟨⟨⟨⟨-, -⟩, -⟩, -⟩, -⟩, -⟩, -⟩, -⟩, -⟩, -⟩, -⟩, -⟩, -⟩, -⟩, -⟩, q38⟩ := hP37
  have X39 := Ext.gr X19 E36
  have q38 : v34 = (Iv (IntKind.i64.wrap (x + (IntKind.i64.wrap (A_g.x * (IntKind.i64.wrap (y + (IntKind.i64.wrap (A_g.y * z))))))))) := q38
  obtain rfl := q38
  show wpList _ _ _ _ (fr [(Pt g_b g_o), (Iv x), (Iv y), (Iv z), Ud, Ud, Ud, Ud, (Iv 0), v20, v21, v22, v23, v24, v25, v26, v27, v28, v29, v30, v31, v32, v33, (Iv (IntKind.i64.wrap (x + (IntKind.i64.wrap (A_g.x * (IntKind.i64.wrap (y + (IntKind.i64.wrap (A_g.y * z)))))))))]) _
  refine q_is rfl rfl (does_assign (u := (Iv (IntKind.i64.wrap (x + (IntKind.i64.wrap (A_g.x * (IntKind.i64.wrap (y + (IntKind.i64.wrap (A_g.y * z)))))))))) (ev rfl)) (by dsimp only [List.set]; try rfl) ?_
  refine wpList_nil (hK15 _ _ ?_)
  refine wp_ret ?_
  refine ret_val (v := (Iv (IntKind.i64.wrap (x + (IntKind.i64.wrap (A_g.x * (IntKind.i64.wrap (y + (IntKind.i64.wrap (A_g.y * z)))))))))) (res_T rfl (slot rfl)) X39 ?_
  have x40 : (idxG A_g x y z : Int) = (IntKind.i64.wrap (x + (IntKind.i64.wrap (A_g.x * (IntKind.i64.wrap (y + (IntKind.i64.wrap (A_g.y * z)))))))) := by first | with_reducible rfl | (simp only [idxG, h2, h4, h6, h8]; done) | (simp [idxG, h2, h4, h6, h8]; done) | rfl
  exact (by first | rfl | rw [x40])

/- spec.HalveGrid -/
theorem c_spec_HalveGrid (g : List Value) (A_g : GridT) (w : World) (hv_g : RGridT w A_g g) : Gives Try.prog 8 #[(.agg g.toArray)] w (fun v w' => ∃ cs_1 : List Value, v = (.tuple #[(.agg cs_1.toArray), (Bo (halOk A_g))]) ∧ Hang w.heap.size w' (fun u => RGridT u (halR A_g) cs_1)) := by
  obtain ⟨r1, r3, r5, r7, y9, rfl, h2, h4, h6, h8, h10⟩ := hv_g
  have hs13 := h10; have hs13l := Sl.len h10; obtain ⟨p11, q12, rfl⟩ := Sl.shape h10
  refine enter [(.agg #[(Fl r1), (Fl r3), (Fl r5), (Fl r7), (Iv A_g.x), (Iv A_g.y), (Iv A_g.z), (.slice p11 A_g.vals.length q12)]), Ud, Ud, Ud, Ud, Ud, Ud, Ud, Ud, Ud, Ud, Ud, Ud, Ud, Ud, Ud, Ud, Ud, Ud, Ud, Ud, Ud, Ud, Ud, Ud, Ud, Ud, Ud, Ud, Ud, Ud, Ud, Ud, Ud, Ud, Ud, Ud, Ud, Ud, Ud, Ud, Ud, Ud, Ud, Ud, Ud, Ud, Ud, Ud, Ud, Ud, Ud, Ud, Ud, Ud, Ud, Ud, Ud, Ud, Ud, Ud, Ud, Ud, Ud, Ud, Ud, Ud, Ud] Try.func8 rfl Try.ntmps8 rfl ?_
  refine wp_seq_k fun K14 hK14 => ?_
  refine wp_region_lit ?_
  refine seqd rfl rfl (does_box (u := (.agg #[(Fl r1), (Fl r3), (Fl r5), (Fl r7), (Iv A_g.x), (Iv A_g.y), (Iv A_g.z), (.slice p11 A_g.vals.length q12)])) (ev rfl)) ?_; rintro _ w19 ⟨b15, rfl, hb16, hB17, E18⟩
  have g20 : w.heap.size ≤ b15 := Nat.le_trans (Below.size (Ext.refl w)) hb16
  change Blk _ _ [(Fl r1), (Fl r3), (Fl r5), (Fl r7), (Iv A_g.x), (Iv A_g.y), (Iv A_g.z), (.slice p11 A_g.vals.length q12)] at hB17
  have X21 := Ext.gr (Ext.refl w) E18
  show wpList _ _ _ _ (fr [(.agg #[(Fl r1), (Fl r3), (Fl r5), (Fl r7), (Iv A_g.x), (Iv A_g.y), (Iv A_g.z), (.slice p11 A_g.vals.length q12)]), (Pt b15 0), Ud, Ud, Ud, Ud, Ud, Ud, Ud, Ud, Ud, Ud, Ud, Ud, Ud, Ud, Ud, Ud, Ud, Ud, Ud, Ud, Ud, Ud, Ud, Ud, Ud, Ud, Ud, Ud, Ud, Ud, Ud, Ud, Ud, Ud, Ud, Ud, Ud, Ud, Ud, Ud, Ud, Ud, Ud, Ud, Ud, Ud, Ud, Ud, Ud, Ud, Ud, Ud, Ud, Ud, Ud, Ud, Ud, Ud, Ud, Ud, Ud, Ud, Ud, Ud, Ud, Ud]) _
  refine seqd rfl rfl (does_alloc z31) ?_; rintro _ w26 ⟨b22, rfl, hb23, hB24, E25⟩
  have n27 : b15 < b22 := Nat.lt_of_lt_of_le (Blk.lt hB17) hb23
  have g28 : w.heap.size ≤ b22 := Nat.le_trans (Below.size X21) hb23
  change Blk _ _ [(Fl 0), (Fl 0), (Fl 0), (Fl 0), (Iv 0), (Iv 0), (Iv 0), (.slice none 0 0)] at hB24
  have X29 := Ext.gr X21 E25
  show wpList _ _ _ _ (fr [(.agg #[(Fl r1), (Fl r3), (Fl r5), (Fl r7), (Iv A_g.x), (Iv A_g.y), (Iv A_g.z), (.slice p11 A_g.vals.length q12)]), (Pt b15 0), (Pt b22 0), Ud, Ud, Ud, Ud, Ud, Ud, Ud, Ud, Ud, Ud, Ud, Ud, Ud, Ud, Ud, Ud, Ud, Ud, Ud, Ud, Ud, Ud, Ud, Ud, Ud, Ud, Ud, Ud, Ud, Ud, Ud, Ud, Ud, Ud, Ud, Ud, Ud, Ud, Ud, Ud, Ud, Ud, Ud, Ud, Ud, Ud, Ud, Ud, Ud, Ud, Ud, Ud, Ud, Ud, Ud, Ud, Ud, Ud, Ud, Ud, Ud, Ud, Ud, Ud, Ud]) _
  refine q_is rfl rfl (does_assign (u := (Bo false)) (ev rfl)) (by dsimp only [List.set]; try rfl) ?_
  refine wpList_nil (hK14 _ _ ?_)
  refine wp_seq_k fun K30 hK30 => ?_
  refine wp_seq_k fun K31 hK31 => ?_
  refine wp_region_lit ?_
  refine seqd rfl rfl (does_call (args := #[(Pt b15 0)]) cal24 (evs rfl) (c_spec_l06Is b15 0 [(Fl r1), (Fl r3), (Fl r5), (Fl r7), (Iv A_g.x), (Iv A_g.y), (Iv A_g.z), (.slice p11 A_g.vals.length q12)] A_g _ (Blk.cells (hB17.ext E25)) ⟨r1, r3, r5, r7, (.slice p11 A_g.vals.length q12), rfl, h2, h4, h6, h8, (Sl.ext hs13 RF.mono X29)⟩)) ?_; rintro _ w33 ⟨E32, rfl⟩
  have X34 := Ext.gr X29 E32
  show wpList _ _ _ _ (fr [(.agg #[(Fl r1), (Fl r3), (Fl r5), (Fl r7), (Iv A_g.x), (Iv A_g.y), (Iv A_g.z), (.slice p11 A_g.vals.length q12)]), (Pt b15 0), (Pt b22 0), (Bo false), Ud, Ud, Ud, Ud, (Bo (isGrid A_g)), Ud, Ud, Ud, Ud, Ud, Ud, Ud, Ud, Ud, Ud, Ud, Ud, Ud, Ud, Ud, Ud, Ud, Ud, Ud, Ud, Ud, Ud, Ud, Ud, Ud, Ud, Ud, Ud, Ud, Ud, Ud, Ud, Ud, Ud, Ud, Ud, Ud, Ud, Ud, Ud, Ud, Ud, Ud, Ud, Ud, Ud, Ud, Ud, Ud, Ud, Ud, Ud, Ud, Ud, Ud, Ud, Ud, Ud, Ud]) _
  refine q_is rfl rfl (does_not (ev rfl)) (by dsimp only [List.set]; try rfl) ?_
  refine wpList_nil (hK31 _ _ ?_)
  refine wp_cond_split (t := !(isGrid A_g)) (ev rfl) (fun c35 => ?_) (fun c35 => ?_)
  · rw [Bool.not_eq_true'] at c35
    have c35' := c35
    refine wp_seq_k fun K36 hK36 => ?_
    refine wp_region_lit ?_
    refine q_is rfl rfl (does_build (parts' := []) (cells := #[(Fl 0), (Fl 0), (Fl 0), (Fl 0), (Iv 0), (Iv 0), (Iv 0), (.slice none 0 0)]) (evp rfl) (by kernel_rfl)) (by dsimp only [List.set]; try rfl) ?_
    refine seqn rfl rfl (does_store (n := 8) (cs := [(Fl 0), (Fl 0), (Fl 0), (Fl 0), (Iv 0), (Iv 0), (Iv 0), (.slice none 0 0)]) (u := (.agg #[(Fl 0), (Fl 0), (Fl 0), (Fl 0), (Iv 0), (Iv 0), (Iv 0), (.slice none 0 0)])) (ev rfl) (ev rfl) Try.sizeOf31 rfl (hB24.ext E32) (Nat.le_of_ble_eq_true rfl) rfl) ?_; rintro _ w39 ⟨rfl, W37, hB38⟩
    change Blk _ _ [(Fl 0), (Fl 0), (Fl 0), (Fl 0), (Iv 0), (Iv 0), (Iv 0), (.slice none 0 0)] at hB38
    have X40 := Below.wr X34 W37 g28
    refine q_is rfl rfl (does_assign (u := (Bo false)) (ev rfl)) (by dsimp only [List.set]; try rfl) ?_
    refine wpList_nil (hK36 _ _ ?_)
    refine wp_ret ?_
    dsimp only [Exit.then, Exit.inBlock]
    refine ret_val (v := (.tuple #[(.agg #[(Fl 0), (Fl 0), (Fl 0), (Fl 0), (Iv 0), (Iv 0), (Iv 0), (.slice none 0 0)]), (Bo false)])) (res_CT rfl (slot rfl) (run_loadAgg (cs := [(Fl 0), (Fl 0), (Fl 0), (Fl 0), (Iv 0), (Iv 0), (Iv 0), (.slice none 0 0)]) Try.isAgg31 Try.sizeOf31 (Blk.cells hB38) rfl) (slot rfl)) X40 ?_
    try simp only [h2, h4, h6, h8] at c35
    have x41 : (halOk A_g) = false := by first | exact halOk_f (by assumption) | (rw [halR_f (by assumption)] <;> rfl) | (rw [halOk_t (by assumption)] <;> first | assumption | rfl) | (rw [halOk_t ‹isGrid A_g = true›, halG_end ‹isGrid A_g = true› (by assumption) (by omega)] <;> assumption) | (rw [halR_t ‹isGrid A_g = true›, halG_end ‹isGrid A_g = true› (z := z) (by assumption) (by omega), ‹isGrid (GridT.mk _ _ _ _ _ _) = false›] <;> rfl) | (rw [halR_t ‹isGrid A_g = true›, halG_end ‹isGrid A_g = true› (z := z) (by assumption) (by omega), ‹isGrid (GridT.mk _ _ _ _ _ _) = true›, gvA_t] <;> first | rfl | assumption | (simp only [h2, h4, h6, h8, c35]; done)) | (rw [halR_t ‹isGrid A_g = true›] <;> first | rfl | assumption) | (rw [halOk_t ‹isGrid A_g = true›]; simp only [h2, h4, h6, h8, c35]; rfl) | (rw [halR_t ‹isGrid A_g = true›]; simp only [h2, h4, h6, h8, c35]; rfl)
    have x42 : cf .f32 0 = (halR A_g).low.x := by first | exact halOk_f (by assumption) | (rw [halR_f (by assumption)] <;> rfl) | (rw [halOk_t (by assumption)] <;> first | assumption | rfl) | (rw [halOk_t ‹isGrid A_g = true›, halG_end ‹isGrid A_g = true› (by assumption) (by omega)] <;> assumption) | (rw [halR_t ‹isGrid A_g = true›, halG_end ‹isGrid A_g = true› (z := z) (by assumption) (by omega), ‹isGrid (GridT.mk _ _ _ _ _ _) = false›] <;> rfl) | (rw [halR_t ‹isGrid A_g = true›, halG_end ‹isGrid A_g = true› (z := z) (by assumption) (by omega), ‹isGrid (GridT.mk _ _ _ _ _ _) = true›, gvA_t] <;> first | rfl | assumption | (simp only [h2, h4, h6, h8, c35]; done)) | (rw [halR_t ‹isGrid A_g = true›] <;> first | rfl | assumption) | (rw [halOk_t ‹isGrid A_g = true›]; simp only [h2, h4, h6, h8, c35]; rfl) | (rw [halR_t ‹isGrid A_g = true›]; simp only [h2, h4, h6, h8, c35]; rfl)
    have x43 : cf .f32 0 = (halR A_g).low.y := by first | exact halOk_f (by assumption) | (rw [halR_f (by assumption)] <;> rfl) | (rw [halOk_t (by assumption)] <;> first | assumption | rfl) | (rw [halOk_t ‹isGrid A_g = true›, halG_end ‹isGrid A_g = true› (by assumption) (by omega)] <;> assumption) | (rw [halR_t ‹isGrid A_g = true›, halG_end ‹isGrid A_g = true› (z := z) (by assumption) (by omega), ‹isGrid (GridT.mk _ _ _ _ _ _) = false›] <;> rfl) | (rw [halR_t ‹isGrid A_g = true›, halG_end ‹isGrid A_g = true› (z := z) (by assumption) (by omega), ‹isGrid (GridT.mk _ _ _ _ _ _) = true›, gvA_t] <;> first | rfl | assumption | (simp only [h2, h4, h6, h8, c35]; done)) | (rw [halR_t ‹isGrid A_g = true›] <;> first | rfl | assumption) | (rw [halOk_t ‹isGrid A_g = true›]; simp only [h2, h4, h6, h8, c35]; rfl) | (rw [halR_t ‹isGrid A_g = true›]; simp only [h2, h4, h6, h8, c35]; rfl)
    have x44 : cf .f32 0 = (halR A_g).low.z := by first | exact halOk_f (by assumption) | (rw [halR_f (by assumption)] <;> rfl) | (rw [halOk_t (by assumption)] <;> first | assumption | rfl) | (rw [halOk_t ‹isGrid A_g = true›, halG_end ‹isGrid A_g = true› (by assumption) (by omega)] <;> assumption) | (rw [halR_t ‹isGrid A_g = true›, halG_end ‹isGrid A_g = true› (z := z) (by assumption) (by omega), ‹isGrid (GridT.mk _ _ _ _ _ _) = false›] <;> rfl) | (rw [halR_t ‹isGrid A_g = true›, halG_end ‹isGrid A_g = true› (z := z) (by assumption) (by omega), ‹isGrid (GridT.mk _ _ _ _ _ _) = true›, gvA_t] <;> first | rfl | assumption | (simp only [h2, h4, h6, h8, c35]; done)) | (rw [halR_t ‹isGrid A_g = true›] <;> first | rfl | assumption) | (rw [halOk_t ‹isGrid A_g = true›]; simp only [h2, h4, h6, h8, c35]; rfl) | (rw [halR_t ‹isGrid A_g = true›]; simp only [h2, h4, h6, h8, c35]; rfl)
    have x45 : cf .f32 0 = (halR A_g).step := by first | exact halOk_f (by assumption) | (rw [halR_f (by assumption)] <;> rfl) | (rw [halOk_t (by assumption)] <;> first | assumption | rfl) | (rw [halOk_t ‹isGrid A_g = true›, halG_end ‹isGrid A_g = true› (by assumption) (by omega)] <;> assumption) | (rw [halR_t ‹isGrid A_g = true›, halG_end ‹isGrid A_g = true› (z := z) (by assumption) (by omega), ‹isGrid (GridT.mk _ _ _ _ _ _) = false›] <;> rfl) | (rw [halR_t ‹isGrid A_g = true›, halG_end ‹isGrid A_g = true› (z := z) (by assumption) (by omega), ‹isGrid (GridT.mk _ _ _ _ _ _) = true›, gvA_t] <;> first | rfl | assumption | (simp only [h2, h4, h6, h8, c35]; done)) | (rw [halR_t ‹isGrid A_g = true›] <;> first | rfl | assumption) | (rw [halOk_t ‹isGrid A_g = true›]; simp only [h2, h4, h6, h8, c35]; rfl) | (rw [halR_t ‹isGrid A_g = true›]; simp only [h2, h4, h6, h8, c35]; rfl)
    have x46 : (halR A_g).x = 0 := by first | exact halOk_f (by assumption) | (rw [halR_f (by assumption)] <;> rfl) | (rw [halOk_t (by assumption)] <;> first | assumption | rfl) | (rw [halOk_t ‹isGrid A_g = true›, halG_end ‹isGrid A_g = true› (by assumption) (by omega)] <;> assumption) | (rw [halR_t ‹isGrid A_g = true›, halG_end ‹isGrid A_g = true› (z := z) (by assumption) (by omega), ‹isGrid (GridT.mk _ _ _ _ _ _) = false›] <;> rfl) | (rw [halR_t ‹isGrid A_g = true›, halG_end ‹isGrid A_g = true› (z := z) (by assumption) (by omega), ‹isGrid (GridT.mk _ _ _ _ _ _) = true›, gvA_t] <;> first | rfl | assumption | (simp only [h2, h4, h6, h8, c35]; done)) | (rw [halR_t ‹isGrid A_g = true›] <;> first | rfl | assumption) | (rw [halOk_t ‹isGrid A_g = true›]; simp only [h2, h4, h6, h8, c35]; rfl) | (rw [halR_t ‹isGrid A_g = true›]; simp only [h2, h4, h6, h8, c35]; rfl)
    have x47 : (halR A_g).y = 0 := by first | exact halOk_f (by assumption) | (rw [halR_f (by assumption)] <;> rfl) | (rw [halOk_t (by assumption)] <;> first | assumption | rfl) | (rw [halOk_t ‹isGrid A_g = true›, halG_end ‹isGrid A_g = true› (by assumption) (by omega)] <;> assumption) | (rw [halR_t ‹isGrid A_g = true›, halG_end ‹isGrid A_g = true› (z := z) (by assumption) (by omega), ‹isGrid (GridT.mk _ _ _ _ _ _) = false›] <;> rfl) | (rw [halR_t ‹isGrid A_g = true›, halG_end ‹isGrid A_g = true› (z := z) (by assumption) (by omega), ‹isGrid (GridT.mk _ _ _ _ _ _) = true›, gvA_t] <;> first | rfl | assumption | (simp only [h2, h4, h6, h8, c35]; done)) | (rw [halR_t ‹isGrid A_g = true›] <;> first | rfl | assumption) | (rw [halOk_t ‹isGrid A_g = true›]; simp only [h2, h4, h6, h8, c35]; rfl) | (rw [halR_t ‹isGrid A_g = true›]; simp only [h2, h4, h6, h8, c35]; rfl)
    have x48 : (halR A_g).z = 0 := by first | exact halOk_f (by assumption) | (rw [halR_f (by assumption)] <;> rfl) | (rw [halOk_t (by assumption)] <;> first | assumption | rfl) | (rw [halOk_t ‹isGrid A_g = true›, halG_end ‹isGrid A_g = true› (by assumption) (by omega)] <;> assumption) | (rw [halR_t ‹isGrid A_g = true›, halG_end ‹isGrid A_g = true› (z := z) (by assumption) (by omega), ‹isGrid (GridT.mk _ _ _ _ _ _) = false›] <;> rfl) | (rw [halR_t ‹isGrid A_g = true›, halG_end ‹isGrid A_g = true› (z := z) (by assumption) (by omega), ‹isGrid (GridT.mk _ _ _ _ _ _) = true›, gvA_t] <;> first | rfl | assumption | (simp only [h2, h4, h6, h8, c35]; done)) | (rw [halR_t ‹isGrid A_g = true›] <;> first | rfl | assumption) | (rw [halOk_t ‹isGrid A_g = true›]; simp only [h2, h4, h6, h8, c35]; rfl) | (rw [halR_t ‹isGrid A_g = true›]; simp only [h2, h4, h6, h8, c35]; rfl)
    have x49 : ([]) = ((halR A_g).vals) := by first | exact halOk_f (by assumption) | (rw [halR_f (by assumption)] <;> rfl) | (rw [halOk_t (by assumption)] <;> first | assumption | rfl) | (rw [halOk_t ‹isGrid A_g = true›, halG_end ‹isGrid A_g = true› (by assumption) (by omega)] <;> assumption) | (rw [halR_t ‹isGrid A_g = true›, halG_end ‹isGrid A_g = true› (z := z) (by assumption) (by omega), ‹isGrid (GridT.mk _ _ _ _ _ _) = false›] <;> rfl) | (rw [halR_t ‹isGrid A_g = true›, halG_end ‹isGrid A_g = true› (z := z) (by assumption) (by omega), ‹isGrid (GridT.mk _ _ _ _ _ _) = true›, gvA_t] <;> first | rfl | assumption | (simp only [h2, h4, h6, h8, c35]; done)) | (rw [halR_t ‹isGrid A_g = true›] <;> first | rfl | assumption) | (rw [halOk_t ‹isGrid A_g = true›]; simp only [h2, h4, h6, h8, c35]; rfl) | (rw [halR_t ‹isGrid A_g = true›]; simp only [h2, h4, h6, h8, c35]; rfl)
    exact ⟨[(Fl 0), (Fl 0), (Fl 0), (Fl 0), (Iv 0), (Iv 0), (Iv 0), (.slice none 0 0)], (by first | rfl | rw [x41]), fun u hu => ⟨0, 0, 0, 0, (.slice none 0 0), (by first | with_reducible rfl | (show _ = _; simp only [x46, x47, x48]) | rfl), x42, x43, x44, x45, (Hang.castL (Sl.hang_nil _ _ _ _) x49) u hu⟩⟩
  rw [Bool.not_eq_false'] at c35
  have c35' := c35
  have hgc := isGrid_cnt (g := A_g) (by assumption)
  refine wp_skip (hK30 _ _ ?_)
  refine wp_seq_k fun K50 hK50 => ?_
  refine wp_region_lit ?_
  refine q_is rfl rfl (does_fieldAddr (ev rfl) fa31_0) (by dsimp only [List.set]; try rfl) ?_
  refine q_is rfl rfl (does_loadAgg (cs := [(Fl r1), (Fl r3), (Fl r5)]) (ev rfl) Try.isAgg29 Try.sizeOf29 (Cells.sub (Blk.cells ((hB17.ext E25).ext E32)) 0 3) rfl) (by dsimp only [List.set]; try rfl) ?_
  refine q_is rfl rfl (does_fieldAddr (ev rfl) fa31_1) (by dsimp only [List.set]; try rfl) ?_
  refine q_is rfl rfl (does_load (u := (Fl r7)) (ev rfl) Try.isAgg22 (Cells.at (Blk.cells ((hB17.ext E25).ext E32)) 3 rfl)) (by dsimp only [List.set]; try rfl) ?_
  refine seqd rfl rfl (does_float (.inr (.inr (.inl rfl))) (ev rfl) (ev rfl)) ?_; rintro _ w54 ⟨r51, rfl, h52, E53⟩
  have X55 := Ext.gr X34 E53
  show wpList _ _ _ _ (fr [(.agg #[(Fl r1), (Fl r3), (Fl r5), (Fl r7), (Iv A_g.x), (Iv A_g.y), (Iv A_g.z), (.slice p11 A_g.vals.length q12)]), (Pt b15 0), (Pt b22 0), (Bo false), Ud, Ud, Ud, Ud, (Bo (isGrid A_g)), (Bo (!(isGrid A_g))), Ud, (Pt b15 0), (.agg #[(Fl r1), (Fl r3), (Fl r5)]), (Pt b15 3), (Fl r7), (Fl r51), Ud, Ud, Ud, Ud, Ud, Ud, Ud, Ud, Ud, Ud, Ud, Ud, Ud, Ud, Ud, Ud, Ud, Ud, Ud, Ud, Ud, Ud, Ud, Ud, Ud, Ud, Ud, Ud, Ud, Ud, Ud, Ud, Ud, Ud, Ud, Ud, Ud, Ud, Ud, Ud, Ud, Ud, Ud, Ud, Ud, Ud, Ud, Ud, Ud, Ud, Ud, Ud]) _
  refine q_is rfl rfl (does_fieldAddr (ev rfl) fa31_2) (by dsimp only [List.set]; try rfl) ?_
  refine q_is rfl rfl (does_load (u := (Iv A_g.x)) (ev rfl) Try.isAgg2 (Cells.at (Blk.cells (((hB17.ext E25).ext E32).ext E53)) 4 rfl)) (by dsimp only [List.set]; try rfl) ?_
  refine q_is rfl rfl (does_iarith (p := A_g.x) (q := 1) (r := A_g.x + 1) (ev rfl) (ev rfl) (.inl ⟨rfl, (in_i64 (by omega) (by omega)).symm⟩)) (by dsimp only [List.set]; try rfl) ?_
  refine q_is rfl rfl (does_iquo (p := A_g.x + 1) (q := 2) (ev rfl) (ev rfl) (by first | omega | assumption) (by first | omega | assumption) (by first | omega | assumption)) (by dsimp only [List.set]; try rfl) ?_
  refine q_is rfl rfl (does_fieldAddr (ev rfl) fa31_3) (by dsimp only [List.set]; try rfl) ?_
  refine q_is rfl rfl (does_load (u := (Iv A_g.y)) (ev rfl) Try.isAgg2 (Cells.at (Blk.cells (((hB17.ext E25).ext E32).ext E53)) 5 rfl)) (by dsimp only [List.set]; try rfl) ?_
  refine q_is rfl rfl (does_iarith (p := A_g.y) (q := 1) (r := A_g.y + 1) (ev rfl) (ev rfl) (.inl ⟨rfl, (in_i64 (by omega) (by omega)).symm⟩)) (by dsimp only [List.set]; try rfl) ?_
  refine q_is rfl rfl (does_iquo (p := A_g.y + 1) (q := 2) (ev rfl) (ev rfl) (by first | omega | assumption) (by first | omega | assumption) (by first | omega | assumption)) (by dsimp only [List.set]; try rfl) ?_
  refine q_is rfl rfl (does_fieldAddr (ev rfl) fa31_4) (by dsimp only [List.set]; try rfl) ?_
  refine q_is rfl rfl (does_load (u := (Iv A_g.z)) (ev rfl) Try.isAgg2 (Cells.at (Blk.cells (((hB17.ext E25).ext E32).ext E53)) 6 rfl)) (by dsimp only [List.set]; try rfl) ?_
  refine q_is rfl rfl (does_iarith (p := A_g.z) (q := 1) (r := A_g.z + 1) (ev rfl) (ev rfl) (.inl ⟨rfl, (in_i64 (by omega) (by omega)).symm⟩)) (by dsimp only [List.set]; try rfl) ?_
  refine q_is rfl rfl (does_iquo (p := A_g.z + 1) (q := 2) (ev rfl) (ev rfl) (by first | omega | assumption) (by first | omega | assumption) (by first | omega | assumption)) (by dsimp only [List.set]; try rfl) ?_
  have n62 : b15 < w54.heap.size := Blk.lt (((hB17.ext E25).ext E32).ext E53)
  have n63 : b22 < w54.heap.size := Blk.lt ((hB24.ext E32).ext E53)
  refine seqd rfl rfl (does_slice0 (e := 22) (fun _ => by kernel_rfl)) ?_; rintro _ w61 ⟨b56, rfl, hb57, hl58, hO59, E60⟩
  have X64 := Ext.gr X55 E60
  have hO65 := hO59 _ RF 1
  have hH66 : Hang w54.heap.size w61 (fun u => Sl RF 1 u (.slice (some ⟨b56, 0, none⟩) 0 0) ([])) := Own.hang hO65 RF.flat (by decide) hb57 (Below.size E60)
  show wpList _ _ _ _ (fr [(.agg #[(Fl r1), (Fl r3), (Fl r5), (Fl r7), (Iv A_g.x), (Iv A_g.y), (Iv A_g.z), (.slice p11 A_g.vals.length q12)]), (Pt b15 0), (Pt b22 0), (Bo false), Ud, Ud, Ud, Ud, (Bo (isGrid A_g)), (Bo (!(isGrid A_g))), Ud, (Pt b15 0), (.agg #[(Fl r1), (Fl r3), (Fl r5)]), (Pt b15 3), (Fl r7), (Fl r51), (Pt b15 4), (Iv A_g.x), (Iv (A_g.x + 1)), (Iv ((A_g.x + 1) / 2)), (Pt b15 5), (Iv A_g.y), (Iv (A_g.y + 1)), (Iv ((A_g.y + 1) / 2)), (Pt b15 6), (Iv A_g.z), (Iv (A_g.z + 1)), (Iv ((A_g.z + 1) / 2)), (.slice (some ⟨b56, 0, none⟩) 0 0), Ud, Ud, Ud, Ud, Ud, Ud, Ud, Ud, Ud, Ud, Ud, Ud, Ud, Ud, Ud, Ud, Ud, Ud, Ud, Ud, Ud, Ud, Ud, Ud, Ud, Ud, Ud, Ud, Ud, Ud, Ud, Ud, Ud, Ud, Ud, Ud, Ud, Ud, Ud]) _
  refine q_is rfl rfl (does_build (parts' := [(0, (.agg #[(Fl r1), (Fl r3), (Fl r5)])), (1, (Fl r51)), (2, (Iv ((A_g.x + 1) / 2))), (3, (Iv ((A_g.y + 1) / 2))), (4, (Iv ((A_g.z + 1) / 2))), (5, (.slice (some ⟨b56, 0, none⟩) 0 0))]) (cells := #[(Fl r1), (Fl r3), (Fl r5), (Fl r51), (Iv ((A_g.x + 1) / 2)), (Iv ((A_g.y + 1) / 2)), (Iv ((A_g.z + 1) / 2)), (.slice (some ⟨b56, 0, none⟩) 0 0)]) (evp rfl) (by kernel_rfl)) (by dsimp only [List.set]; try rfl) ?_
  refine seqd rfl rfl (does_alloc z31) ?_; rintro _ w71 ⟨b67, rfl, hb68, hB69, E70⟩
  have n72 : b15 < b67 := Nat.lt_of_lt_of_le (Blk.lt ((((hB17.ext E25).ext E32).ext E53).ext E60)) hb68
  have n73 : b22 < b67 := Nat.lt_of_lt_of_le (Blk.lt (((hB24.ext E32).ext E53).ext E60)) hb68
  have g74 : w.heap.size ≤ b67 := Nat.le_trans (Below.size X64) hb68
  change Blk _ _ [(Fl 0), (Fl 0), (Fl 0), (Fl 0), (Iv 0), (Iv 0), (Iv 0), (.slice none 0 0)] at hB69
  have X75 := Ext.gr X64 E70
  show wpList _ _ _ _ (fr [(.agg #[(Fl r1), (Fl r3), (Fl r5), (Fl r7), (Iv A_g.x), (Iv A_g.y), (Iv A_g.z), (.slice p11 A_g.vals.length q12)]), (Pt b15 0), (Pt b22 0), (Bo false), (Pt b67 0), Ud, Ud, Ud, (Bo (isGrid A_g)), (Bo (!(isGrid A_g))), Ud, (Pt b15 0), (.agg #[(Fl r1), (Fl r3), (Fl r5)]), (Pt b15 3), (Fl r7), (Fl r51), (Pt b15 4), (Iv A_g.x), (Iv (A_g.x + 1)), (Iv ((A_g.x + 1) / 2)), (Pt b15 5), (Iv A_g.y), (Iv (A_g.y + 1)), (Iv ((A_g.y + 1) / 2)), (Pt b15 6), (Iv A_g.z), (Iv (A_g.z + 1)), (Iv ((A_g.z + 1) / 2)), (.slice (some ⟨b56, 0, none⟩) 0 0), (.agg #[(Fl r1), (Fl r3), (Fl r5), (Fl r51), (Iv ((A_g.x + 1) / 2)), (Iv ((A_g.y + 1) / 2)), (Iv ((A_g.z + 1) / 2)), (.slice (some ⟨b56, 0, none⟩) 0 0)]), Ud, Ud, Ud, Ud, Ud, Ud, Ud, Ud, Ud, Ud, Ud, Ud, Ud, Ud, Ud, Ud, Ud, Ud, Ud, Ud, Ud, Ud, Ud, Ud, Ud, Ud, Ud, Ud, Ud, Ud, Ud, Ud, Ud, Ud, Ud, Ud, Ud, Ud]) _
  refine seqn rfl rfl (does_store (n := 8) (cs := [(Fl 0), (Fl 0), (Fl 0), (Fl 0), (Iv 0), (Iv 0), (Iv 0), (.slice none 0 0)]) (u := (.agg #[(Fl r1), (Fl r3), (Fl r5), (Fl r51), (Iv ((A_g.x + 1) / 2)), (Iv ((A_g.y + 1) / 2)), (Iv ((A_g.z + 1) / 2)), (.slice (some ⟨b56, 0, none⟩) 0 0)])) (ev rfl) (ev rfl) Try.sizeOf31 rfl hB69 (Nat.le_of_ble_eq_true rfl) rfl) ?_; rintro _ w78 ⟨rfl, W76, hB77⟩
  change Blk _ _ [(Fl r1), (Fl r3), (Fl r5), (Fl r51), (Iv ((A_g.x + 1) / 2)), (Iv ((A_g.y + 1) / 2)), (Iv ((A_g.z + 1) / 2)), (.slice (some ⟨b56, 0, none⟩) 0 0)] at hB77
  have X79 := Below.wr X75 W76 g74
  refine wpList_nil (hK50 _ _ ?_)
  refine wp_seq_k fun K80 hK80 => ?_
  refine wp_seq_k fun K81 hK81 => ?_
  refine wp_region_lit ?_
  refine q_is rfl rfl (does_assign (u := (Iv 0)) (ev rfl)) (by dsimp only [List.set]; try rfl) ?_
  refine wpList_nil (hK81 _ _ ?_)
  refine wp_block ?_
  have n87 : b15 < w78.heap.size := Blk.lt ((((((hB17.ext E25).ext E32).ext E53).ext E60).ext E70).wr W76 (Nat.ne_of_lt n72))
  have n88 : b22 < w78.heap.size := Blk.lt (((((hB24.ext E32).ext E53).ext E60).ext E70).wr W76 (Nat.ne_of_lt n73))
  have n89 : b67 < w78.heap.size := Blk.lt hB77
  obtain ⟨gg83, hg84, hg85, hO86⟩ := Own.start' hO65 (Own.same hO65 RF.flat (((Same.refl _ _).ext E70).wr W76 (.inr (Nat.le_trans (Below.size (Ext.refl _)) hb68))) hb57 (Below.size E60))
  have hN90 : w54.heap.size ≤ gg83 := by rcases hg84 with h | h; exact h ▸ hb57; exact Nat.le_trans (Below.size E60) h
  have g91 : w.heap.size ≤ gg83 := Nat.le_trans (Below.size (Ext.gr (Ext.gr (Ext.gr (Ext.gr (Ext.refl _) E18) E25) E32) E53)) hN90
  have hg92 : gg83 < w61.heap.size := by rcases hg85 with h | h; exact h ▸ Nat.lt_of_lt_of_le hl58 (Nat.le_refl _); exact h
  have n93 : gg83 < b67 := Nat.lt_of_lt_of_le hg92 (Nat.le_trans (Nat.le_refl _) hb68)
  refine loop_ghost (σ := Nat) (fun z a w' => ∃ u82 : Nat → Value, ∃ y4_7 : Value, a = fr [(.agg #[(Fl r1), (Fl r3), (Fl r5), (Fl r7), (Iv A_g.x), (Iv A_g.y), (Iv A_g.z), (.slice p11 A_g.vals.length q12)]), (Pt b15 0), (Pt b22 0), (Bo false), (Pt b67 0), (Iv (z : Int)), (u82 6), (u82 7), (Bo (isGrid A_g)), (Bo (!(isGrid A_g))), Ud, (Pt b15 0), (.agg #[(Fl r1), (Fl r3), (Fl r5)]), (Pt b15 3), (Fl r7), (Fl r51), (Pt b15 4), (Iv A_g.x), (Iv (A_g.x + 1)), (Iv ((A_g.x + 1) / 2)), (Pt b15 5), (Iv A_g.y), (Iv (A_g.y + 1)), (Iv ((A_g.y + 1) / 2)), (Pt b15 6), (Iv A_g.z), (Iv (A_g.z + 1)), (Iv ((A_g.z + 1) / 2)), (.slice (some ⟨b56, 0, none⟩) 0 0), (.agg #[(Fl r1), (Fl r3), (Fl r5), (Fl r51), (Iv ((A_g.x + 1) / 2)), (Iv ((A_g.y + 1) / 2)), (Iv ((A_g.z + 1) / 2)), (.slice (some ⟨b56, 0, none⟩) 0 0)]), (u82 30), (u82 31), (u82 32), (u82 33), (u82 34), (u82 35), (u82 36), (u82 37), (u82 38), (u82 39), (u82 40), (u82 41), (u82 42), (u82 43), (u82 44), (u82 45), (u82 46), (u82 47), (u82 48), (u82 49), (u82 50), (u82 51), (u82 52), (u82 53), (u82 54), (u82 55), (u82 56), (u82 57), (u82 58), (u82 59), (u82 60), (u82 61), (u82 62), (u82 63), Ud, Ud, Ud, Ud] ∧ KpL [gg83, b67] w78 w' ∧ Own RF 1 22 gg83 w78.heap.size w' y4_7 (takG A_g (fH A_g) ((A_g.x + 1) / 2) ((A_g.y + 1) / 2) (cnt ((A_g.x + 1) / 2) ((A_g.y + 1) / 2) 0 0 z)) ∧ Blk w' b67 [(Fl r1), (Fl r3), (Fl r5), (Fl r51), (Iv ((A_g.x + 1) / 2)), (Iv ((A_g.y + 1) / 2)), (Iv ((A_g.z + 1) / 2)), y4_7] ∧ ((z : Int) ≤ ((A_g.z + 1) / 2))) (fun z => ((A_g.z + 1) / 2).toNat - z) 0 ?_ ?_
  · refine ⟨fun t => (([(.agg #[(Fl r1), (Fl r3), (Fl r5), (Fl r7), (Iv A_g.x), (Iv A_g.y), (Iv A_g.z), (.slice p11 A_g.vals.length q12)]), (Pt b15 0), (Pt b22 0), (Bo false), (Pt b67 0), (Iv 0), Ud, Ud, (Bo (isGrid A_g)), (Bo (!(isGrid A_g))), Ud, (Pt b15 0), (.agg #[(Fl r1), (Fl r3), (Fl r5)]), (Pt b15 3), (Fl r7), (Fl r51), (Pt b15 4), (Iv A_g.x), (Iv (A_g.x + 1)), (Iv ((A_g.x + 1) / 2)), (Pt b15 5), (Iv A_g.y), (Iv (A_g.y + 1)), (Iv ((A_g.y + 1) / 2)), (Pt b15 6), (Iv A_g.z), (Iv (A_g.z + 1)), (Iv ((A_g.z + 1) / 2)), (.slice (some ⟨b56, 0, none⟩) 0 0), (.agg #[(Fl r1), (Fl r3), (Fl r5), (Fl r51), (Iv ((A_g.x + 1) / 2)), (Iv ((A_g.y + 1) / 2)), (Iv ((A_g.z + 1) / 2)), (.slice (some ⟨b56, 0, none⟩) 0 0)]), Ud, Ud, Ud, Ud, Ud, Ud, Ud, Ud, Ud, Ud, Ud, Ud, Ud, Ud, Ud, Ud, Ud, Ud, Ud, Ud, Ud, Ud, Ud, Ud, Ud, Ud, Ud, Ud, Ud, Ud, Ud, Ud, Ud, Ud, Ud, Ud, Ud, Ud] : List Value)[t]?).getD undef, (.slice (some ⟨b56, 0, none⟩) 0 0), rfl, KpL.refl _ _, (Own.cast hO86 (by first | rfl | (simp [takG, cnt]))), hB77, ?_⟩
    (try dsimp only); omega
  · rintro z a w94 ⟨u82, y4_7, rfl, E95, hO97, hB98, hz⟩
    have X99 := Below.kl X79 E95 (allS g91 (allS g74 all0)) (Nat.le_refl _)
    obtain ⟨p100, q101, rfl⟩ := Own.shape hO97
    have hH102 : Hang w54.heap.size w94 (fun u => Sl RF 1 u (.slice p100 ((takG A_g (fH A_g) ((A_g.x + 1) / 2) ((A_g.y + 1) / 2) (cnt ((A_g.x + 1) / 2) ((A_g.y + 1) / 2) 0 0 z)).length) q101) (takG A_g (fH A_g) ((A_g.x + 1) / 2) ((A_g.y + 1) / 2) (cnt ((A_g.x + 1) / 2) ((A_g.y + 1) / 2) 0 0 z))) := Own.hang hO97 RF.flat (by decide) hN90 (Nat.le_trans (Nat.le_trans (Below.size E60) (Below.size E70)) (Nat.le_of_eq (Eq.symm (Wr.size W76))))
    refine wp_seq_k fun K103 hK103 => ?_
    refine wp_seq_k fun K104 hK104 => ?_
    refine wp_region_lit ?_
    refine q_is rfl rfl (does_move (u := (Iv (z : Int))) (ev rfl)) (by dsimp only [List.set]; try rfl) ?_
    refine q_is rfl rfl (does_fieldAddr (ev rfl) fa31_4) (by dsimp only [List.set]; try rfl) ?_
    refine q_is rfl rfl (does_load (u := (Iv ((A_g.z + 1) / 2))) (ev rfl) Try.isAgg2 (Cells.at (Blk.cells hB98) 6 rfl)) (by dsimp only [List.set]; try rfl) ?_
    refine q_is rfl rfl (does_icmp (p := (z : Int)) (q := (A_g.z + 1) / 2) (.inr (.inr (.inl rfl))) (ev rfl) (ev rfl)) (by dsimp only [List.set]; try rfl) ?_
    refine wpList_nil (hK104 _ _ ?_)
    refine wp_cond_split (t := icmp .lss (z : Int) ((A_g.z + 1) / 2)) (ev rfl) (fun c105 => ?_) (fun c105 => ?_)
    · have c105' := c105
      (try simp only [icmp, Bool.and_eq_true, Bool.or_eq_true, Bool.and_eq_false_iff, Bool.or_eq_false_iff, Bool.not_eq_true', Bool.not_eq_false', decide_eq_true_eq, decide_eq_false_iff_not, beq_iff_eq, bne_iff_ne, beq_eq_false_iff_ne, bne_eq_false_iff_eq] at c105')
      refine wp_skip (hK103 _ _ ?_)
      refine wp_seq_k fun K106 hK106 => ?_
      refine wp_block ?_
      refine wp_seq_k fun K107 hK107 => ?_
      refine wp_region_lit ?_
      refine q_is rfl rfl (does_assign (u := (Iv 0)) (ev rfl)) (by dsimp only [List.set]; try rfl) ?_
      refine wpList_nil (hK107 _ _ ?_)
      refine wp_block ?_
      have n113 : b15 < w94.heap.size := Blk.lt (((((((hB17.ext E25).ext E32).ext E53).ext E60).ext E70).wr W76 (Nat.ne_of_lt n72)).kl E95 (ninS (Nat.ne_of_lt (Nat.lt_of_lt_of_le n62 hN90)) (ninS (Nat.ne_of_lt n72) nin0)))
      have n114 : b22 < w94.heap.size := Blk.lt ((((((hB24.ext E32).ext E53).ext E60).ext E70).wr W76 (Nat.ne_of_lt n73)).kl E95 (ninS (Nat.ne_of_lt (Nat.lt_of_lt_of_le n63 hN90)) (ninS (Nat.ne_of_lt n73) nin0)))
      have n115 : b67 < w94.heap.size := Blk.lt hB98
      obtain ⟨gg109, hg110, hg111, hO112⟩ := Own.start' hO97 hO97
      have hN116 : w54.heap.size ≤ gg109 := by rcases hg110 with h | h; exact h ▸ hN90; exact Nat.le_trans (Nat.le_trans (Nat.le_trans (Below.size E60) (Below.size E70)) (Nat.le_of_eq (Eq.symm (Wr.size W76)))) h
      have g117 : w.heap.size ≤ gg109 := Nat.le_trans (Below.size (Ext.gr (Ext.gr (Ext.gr (Ext.gr (Ext.refl _) E18) E25) E32) E53)) hN116
      have n118 : b15 ≠ gg109 := hg110.elim (fun h => by rw [h]; exact (Nat.ne_of_lt (Nat.lt_of_lt_of_le n62 hN90))) (fun h => Nat.ne_of_lt (Nat.lt_of_lt_of_le n87 h))
      have n119 : b22 ≠ gg109 := hg110.elim (fun h => by rw [h]; exact (Nat.ne_of_lt (Nat.lt_of_lt_of_le n63 hN90))) (fun h => Nat.ne_of_lt (Nat.lt_of_lt_of_le n88 h))
      have n120 : b67 ≠ gg109 := hg110.elim (fun h => by rw [h]; exact (Nat.ne_of_gt n93)) (fun h => Nat.ne_of_lt (Nat.lt_of_lt_of_le n89 h))
      have hg121 : gg109 < w94.heap.size := by rcases hg111 with h | h; exact h ▸ Nat.lt_of_lt_of_le hg92 (Nat.le_trans (Nat.le_trans (Below.size E70) (Nat.le_of_eq (Eq.symm (Wr.size W76)))) (KpL.size E95)); exact h
      refine loop_ghost (σ := Nat) (fun y a w' => ∃ u108 : Nat → Value, ∃ y4_7 : Value, a = fr [(.agg #[(Fl r1), (Fl r3), (Fl r5), (Fl r7), (Iv A_g.x), (Iv A_g.y), (Iv A_g.z), (.slice p11 A_g.vals.length q12)]), (Pt b15 0), (Pt b22 0), (Bo false), (Pt b67 0), (Iv (z : Int)), (Iv (y : Int)), (u108 7), (Bo (isGrid A_g)), (Bo (!(isGrid A_g))), Ud, (Pt b15 0), (.agg #[(Fl r1), (Fl r3), (Fl r5)]), (Pt b15 3), (Fl r7), (Fl r51), (Pt b15 4), (Iv A_g.x), (Iv (A_g.x + 1)), (Iv ((A_g.x + 1) / 2)), (Pt b15 5), (Iv A_g.y), (Iv (A_g.y + 1)), (Iv ((A_g.y + 1) / 2)), (Pt b15 6), (Iv A_g.z), (Iv (A_g.z + 1)), (Iv ((A_g.z + 1) / 2)), (.slice (some ⟨b56, 0, none⟩) 0 0), (.agg #[(Fl r1), (Fl r3), (Fl r5), (Fl r51), (Iv ((A_g.x + 1) / 2)), (Iv ((A_g.y + 1) / 2)), (Iv ((A_g.z + 1) / 2)), (.slice (some ⟨b56, 0, none⟩) 0 0)]), (Iv (z : Int)), (Pt b67 6), (Iv ((A_g.z + 1) / 2)), (Bo (icmp .lss (z : Int) ((A_g.z + 1) / 2))), (u82 34), (u82 35), (u108 36), (u108 37), (u108 38), (u108 39), (u108 40), (u108 41), (u108 42), (u108 43), (u108 44), (u108 45), (u108 46), (u108 47), (u108 48), (u108 49), (u108 50), (u108 51), (u108 52), (u108 53), (u108 54), (u108 55), (u108 56), (u108 57), (u108 58), (u108 59), (u108 60), (u108 61), (u108 62), (u108 63), Ud, Ud, Ud, Ud] ∧ KpL [gg109, b67] w94 w' ∧ Own RF 1 22 gg109 w94.heap.size w' y4_7 (takG A_g (fH A_g) ((A_g.x + 1) / 2) ((A_g.y + 1) / 2) (cnt ((A_g.x + 1) / 2) ((A_g.y + 1) / 2) 0 y z)) ∧ Blk w' b67 [(Fl r1), (Fl r3), (Fl r5), (Fl r51), (Iv ((A_g.x + 1) / 2)), (Iv ((A_g.y + 1) / 2)), (Iv ((A_g.z + 1) / 2)), y4_7] ∧ ((y : Int) ≤ ((A_g.y + 1) / 2))) (fun y => ((A_g.y + 1) / 2).toNat - y) 0 ?_ ?_
      · refine ⟨fun t => (([(.agg #[(Fl r1), (Fl r3), (Fl r5), (Fl r7), (Iv A_g.x), (Iv A_g.y), (Iv A_g.z), (.slice p11 A_g.vals.length q12)]), (Pt b15 0), (Pt b22 0), (Bo false), (Pt b67 0), (Iv (z : Int)), (Iv 0), (u82 7), (Bo (isGrid A_g)), (Bo (!(isGrid A_g))), Ud, (Pt b15 0), (.agg #[(Fl r1), (Fl r3), (Fl r5)]), (Pt b15 3), (Fl r7), (Fl r51), (Pt b15 4), (Iv A_g.x), (Iv (A_g.x + 1)), (Iv ((A_g.x + 1) / 2)), (Pt b15 5), (Iv A_g.y), (Iv (A_g.y + 1)), (Iv ((A_g.y + 1) / 2)), (Pt b15 6), (Iv A_g.z), (Iv (A_g.z + 1)), (Iv ((A_g.z + 1) / 2)), (.slice (some ⟨b56, 0, none⟩) 0 0), (.agg #[(Fl r1), (Fl r3), (Fl r5), (Fl r51), (Iv ((A_g.x + 1) / 2)), (Iv ((A_g.y + 1) / 2)), (Iv ((A_g.z + 1) / 2)), (.slice (some ⟨b56, 0, none⟩) 0 0)]), (Iv (z : Int)), (Pt b67 6), (Iv ((A_g.z + 1) / 2)), (Bo (icmp .lss (z : Int) ((A_g.z + 1) / 2))), (u82 34), (u82 35), (u82 36), (u82 37), (u82 38), (u82 39), (u82 40), (u82 41), (u82 42), (u82 43), (u82 44), (u82 45), (u82 46), (u82 47), (u82 48), (u82 49), (u82 50), (u82 51), (u82 52), (u82 53), (u82 54), (u82 55), (u82 56), (u82 57), (u82 58), (u82 59), (u82 60), (u82 61), (u82 62), (u82 63), Ud, Ud, Ud, Ud] : List Value)[t]?).getD undef, (.slice p100 ((takG A_g (fH A_g) ((A_g.x + 1) / 2) ((A_g.y + 1) / 2) (cnt ((A_g.x + 1) / 2) ((A_g.y + 1) / 2) 0 0 z)).length) q101), rfl, KpL.refl _ _, (Own.cast hO112 (by rfl)), hB98, ?_⟩
        (try dsimp only); omega
      · rintro y a w122 ⟨u108, y4_7, rfl, E123, hO125, hB126, hy⟩
        have X127 := Below.kl X99 E123 (allS g117 (allS g74 all0)) (Nat.le_refl _)
        obtain ⟨p128, q129, rfl⟩ := Own.shape hO125
        have hH130 : Hang w54.heap.size w122 (fun u => Sl RF 1 u (.slice p128 ((takG A_g (fH A_g) ((A_g.x + 1) / 2) ((A_g.y + 1) / 2) (cnt ((A_g.x + 1) / 2) ((A_g.y + 1) / 2) 0 y z)).length) q129) (takG A_g (fH A_g) ((A_g.x + 1) / 2) ((A_g.y + 1) / 2) (cnt ((A_g.x + 1) / 2) ((A_g.y + 1) / 2) 0 y z))) := Own.hang hO125 RF.flat (by decide) hN116 (Nat.le_trans (Nat.le_trans (Nat.le_trans (Below.size E60) (Below.size E70)) (Nat.le_of_eq (Eq.symm (Wr.size W76)))) (KpL.size E95))
        refine wp_seq_k fun K131 hK131 => ?_
        refine wp_seq_k fun K132 hK132 => ?_
        refine wp_region_lit ?_
        refine q_is rfl rfl (does_move (u := (Iv (y : Int))) (ev rfl)) (by dsimp only [List.set]; try rfl) ?_
        refine q_is rfl rfl (does_fieldAddr (ev rfl) fa31_3) (by dsimp only [List.set]; try rfl) ?_
        refine q_is rfl rfl (does_load (u := (Iv ((A_g.y + 1) / 2))) (ev rfl) Try.isAgg2 (Cells.at (Blk.cells hB126) 5 rfl)) (by dsimp only [List.set]; try rfl) ?_
        refine q_is rfl rfl (does_icmp (p := (y : Int)) (q := (A_g.y + 1) / 2) (.inr (.inr (.inl rfl))) (ev rfl) (ev rfl)) (by dsimp only [List.set]; try rfl) ?_
        refine wpList_nil (hK132 _ _ ?_)
        refine wp_cond_split (t := icmp .lss (y : Int) ((A_g.y + 1) / 2)) (ev rfl) (fun c133 => ?_) (fun c133 => ?_)
        · have c133' := c133
          (try simp only [icmp, Bool.and_eq_true, Bool.or_eq_true, Bool.and_eq_false_iff, Bool.or_eq_false_iff, Bool.not_eq_true', Bool.not_eq_false', decide_eq_true_eq, decide_eq_false_iff_not, beq_iff_eq, bne_iff_ne, beq_eq_false_iff_ne, bne_eq_false_iff_eq] at c133')
          refine wp_skip (hK131 _ _ ?_)
          refine wp_seq_k fun K134 hK134 => ?_
          refine wp_block ?_
          refine wp_seq_k fun K135 hK135 => ?_
          refine wp_region_lit ?_
          refine q_is rfl rfl (does_assign (u := (Iv 0)) (ev rfl)) (by dsimp only [List.set]; try rfl) ?_
          refine wpList_nil (hK135 _ _ ?_)
          refine wp_block ?_
          have n141 : b15 < w122.heap.size := Blk.lt ((((((((hB17.ext E25).ext E32).ext E53).ext E60).ext E70).wr W76 (Nat.ne_of_lt n72)).kl E95 (ninS (Nat.ne_of_lt (Nat.lt_of_lt_of_le n62 hN90)) (ninS (Nat.ne_of_lt n72) nin0))).kl E123 (ninS n118 (ninS (Nat.ne_of_lt n72) nin0)))
          have n142 : b22 < w122.heap.size := Blk.lt (((((((hB24.ext E32).ext E53).ext E60).ext E70).wr W76 (Nat.ne_of_lt n73)).kl E95 (ninS (Nat.ne_of_lt (Nat.lt_of_lt_of_le n63 hN90)) (ninS (Nat.ne_of_lt n73) nin0))).kl E123 (ninS n119 (ninS (Nat.ne_of_lt n73) nin0)))
          have n143 : b67 < w122.heap.size := Blk.lt hB126
          obtain ⟨gg137, hg138, hg139, hO140⟩ := Own.start' hO125 hO125
          have hN144 : w54.heap.size ≤ gg137 := by rcases hg138 with h | h; exact h ▸ hN116; exact Nat.le_trans (Nat.le_trans (Nat.le_trans (Nat.le_trans (Below.size E60) (Below.size E70)) (Nat.le_of_eq (Eq.symm (Wr.size W76)))) (KpL.size E95)) h
          have g145 : w.heap.size ≤ gg137 := Nat.le_trans (Below.size (Ext.gr (Ext.gr (Ext.gr (Ext.gr (Ext.refl _) E18) E25) E32) E53)) hN144
          have n146 : b15 ≠ gg137 := hg138.elim (fun h => by rw [h]; exact n118) (fun h => Nat.ne_of_lt (Nat.lt_of_lt_of_le n113 h))
          have n147 : b22 ≠ gg137 := hg138.elim (fun h => by rw [h]; exact n119) (fun h => Nat.ne_of_lt (Nat.lt_of_lt_of_le n114 h))
          have n148 : b67 ≠ gg137 := hg138.elim (fun h => by rw [h]; exact n120) (fun h => Nat.ne_of_lt (Nat.lt_of_lt_of_le n115 h))
          have hg149 : gg137 < w122.heap.size := by rcases hg139 with h | h; exact h ▸ Nat.lt_of_lt_of_le hg121 (KpL.size E123); exact h
          refine loop_ghost (σ := Nat) (fun x a w' => ∃ u136 : Nat → Value, ∃ y4_7 : Value, a = fr [(.agg #[(Fl r1), (Fl r3), (Fl r5), (Fl r7), (Iv A_g.x), (Iv A_g.y), (Iv A_g.z), (.slice p11 A_g.vals.length q12)]), (Pt b15 0), (Pt b22 0), (Bo false), (Pt b67 0), (Iv (z : Int)), (Iv (y : Int)), (Iv (x : Int)), (Bo (isGrid A_g)), (Bo (!(isGrid A_g))), Ud, (Pt b15 0), (.agg #[(Fl r1), (Fl r3), (Fl r5)]), (Pt b15 3), (Fl r7), (Fl r51), (Pt b15 4), (Iv A_g.x), (Iv (A_g.x + 1)), (Iv ((A_g.x + 1) / 2)), (Pt b15 5), (Iv A_g.y), (Iv (A_g.y + 1)), (Iv ((A_g.y + 1) / 2)), (Pt b15 6), (Iv A_g.z), (Iv (A_g.z + 1)), (Iv ((A_g.z + 1) / 2)), (.slice (some ⟨b56, 0, none⟩) 0 0), (.agg #[(Fl r1), (Fl r3), (Fl r5), (Fl r51), (Iv ((A_g.x + 1) / 2)), (Iv ((A_g.y + 1) / 2)), (Iv ((A_g.z + 1) / 2)), (.slice (some ⟨b56, 0, none⟩) 0 0)]), (Iv (z : Int)), (Pt b67 6), (Iv ((A_g.z + 1) / 2)), (Bo (icmp .lss (z : Int) ((A_g.z + 1) / 2))), (u82 34), (u82 35), (Iv (y : Int)), (Pt b67 5), (Iv ((A_g.y + 1) / 2)), (Bo (icmp .lss (y : Int) ((A_g.y + 1) / 2))), (u108 40), (u108 41), (u136 42), (u136 43), (u136 44), (u136 45), (u136 46), (u136 47), (u136 48), (u136 49), (u136 50), (u136 51), (u136 52), (u136 53), (u136 54), (u136 55), (u136 56), (u136 57), (u136 58), (u136 59), (u136 60), (u136 61), (u136 62), (u136 63), Ud, Ud, Ud, Ud] ∧ KpL [gg137, b67] w122 w' ∧ Own RF 1 22 gg137 w122.heap.size w' y4_7 (takG A_g (fH A_g) ((A_g.x + 1) / 2) ((A_g.y + 1) / 2) (cnt ((A_g.x + 1) / 2) ((A_g.y + 1) / 2) x y z)) ∧ Blk w' b67 [(Fl r1), (Fl r3), (Fl r5), (Fl r51), (Iv ((A_g.x + 1) / 2)), (Iv ((A_g.y + 1) / 2)), (Iv ((A_g.z + 1) / 2)), y4_7] ∧ ((x : Int) ≤ ((A_g.x + 1) / 2))) (fun x => ((A_g.x + 1) / 2).toNat - x) 0 ?_ ?_
          · refine ⟨fun t => (([(.agg #[(Fl r1), (Fl r3), (Fl r5), (Fl r7), (Iv A_g.x), (Iv A_g.y), (Iv A_g.z), (.slice p11 A_g.vals.length q12)]), (Pt b15 0), (Pt b22 0), (Bo false), (Pt b67 0), (Iv (z : Int)), (Iv (y : Int)), (Iv 0), (Bo (isGrid A_g)), (Bo (!(isGrid A_g))), Ud, (Pt b15 0), (.agg #[(Fl r1), (Fl r3), (Fl r5)]), (Pt b15 3), (Fl r7), (Fl r51), (Pt b15 4), (Iv A_g.x), (Iv (A_g.x + 1)), (Iv ((A_g.x + 1) / 2)), (Pt b15 5), (Iv A_g.y), (Iv (A_g.y + 1)), (Iv ((A_g.y + 1) / 2)), (Pt b15 6), (Iv A_g.z), (Iv (A_g.z + 1)), (Iv ((A_g.z + 1) / 2)), (.slice (some ⟨b56, 0, none⟩) 0 0), (.agg #[(Fl r1), (Fl r3), (Fl r5), (Fl r51), (Iv ((A_g.x + 1) / 2)), (Iv ((A_g.y + 1) / 2)), (Iv ((A_g.z + 1) / 2)), (.slice (some ⟨b56, 0, none⟩) 0 0)]), (Iv (z : Int)), (Pt b67 6), (Iv ((A_g.z + 1) / 2)), (Bo (icmp .lss (z : Int) ((A_g.z + 1) / 2))), (u82 34), (u82 35), (Iv (y : Int)), (Pt b67 5), (Iv ((A_g.y + 1) / 2)), (Bo (icmp .lss (y : Int) ((A_g.y + 1) / 2))), (u108 40), (u108 41), (u108 42), (u108 43), (u108 44), (u108 45), (u108 46), (u108 47), (u108 48), (u108 49), (u108 50), (u108 51), (u108 52), (u108 53), (u108 54), (u108 55), (u108 56), (u108 57), (u108 58), (u108 59), (u108 60), (u108 61), (u108 62), (u108 63), Ud, Ud, Ud, Ud] : List Value)[t]?).getD undef, (.slice p128 ((takG A_g (fH A_g) ((A_g.x + 1) / 2) ((A_g.y + 1) / 2) (cnt ((A_g.x + 1) / 2) ((A_g.y + 1) / 2) 0 y z)).length) q129), rfl, KpL.refl _ _, (Own.cast hO140 (by rfl)), hB126, ?_⟩
            (try dsimp only); omega
          · rintro x a w150 ⟨u136, y4_7, rfl, E151, hO153, hB154, hx⟩
            have X155 := Below.kl X127 E151 (allS g145 (allS g74 all0)) (Nat.le_refl _)
            obtain ⟨p156, q157, rfl⟩ := Own.shape hO153
            have hH158 : Hang w54.heap.size w150 (fun u => Sl RF 1 u (.slice p156 ((takG A_g (fH A_g) ((A_g.x + 1) / 2) ((A_g.y + 1) / 2) (cnt ((A_g.x + 1) / 2) ((A_g.y + 1) / 2) x y z)).length) q157) (takG A_g (fH A_g) ((A_g.x + 1) / 2) ((A_g.y + 1) / 2) (cnt ((A_g.x + 1) / 2) ((A_g.y + 1) / 2) x y z))) := Own.hang hO153 RF.flat (by decide) hN144 (Nat.le_trans (Nat.le_trans (Nat.le_trans (Nat.le_trans (Below.size E60) (Below.size E70)) (Nat.le_of_eq (Eq.symm (Wr.size W76)))) (KpL.size E95)) (KpL.size E123))
            have hcl := tak_len (g := A_g) (f := (fH A_g)) (c0 := ((A_g.x + 1) / 2)) (c1 := ((A_g.y + 1) / 2)) (x := x) (y := y) (z := z) (by omega) (by omega) (by omega) (by omega) (by omega)
            refine wp_seq_k fun K159 hK159 => ?_
            refine wp_seq_k fun K160 hK160 => ?_
            refine wp_region_lit ?_
            refine q_is rfl rfl (does_move (u := (Iv (x : Int))) (ev rfl)) (by dsimp only [List.set]; try rfl) ?_
            refine q_is rfl rfl (does_fieldAddr (ev rfl) fa31_2) (by dsimp only [List.set]; try rfl) ?_
            refine q_is rfl rfl (does_load (u := (Iv ((A_g.x + 1) / 2))) (ev rfl) Try.isAgg2 (Cells.at (Blk.cells hB154) 4 rfl)) (by dsimp only [List.set]; try rfl) ?_
            refine q_is rfl rfl (does_icmp (p := (x : Int)) (q := (A_g.x + 1) / 2) (.inr (.inr (.inl rfl))) (ev rfl) (ev rfl)) (by dsimp only [List.set]; try rfl) ?_
            refine wpList_nil (hK160 _ _ ?_)
            refine wp_cond_split (t := icmp .lss (x : Int) ((A_g.x + 1) / 2)) (ev rfl) (fun c161 => ?_) (fun c161 => ?_)
            · have c161' := c161
              (try simp only [icmp, Bool.and_eq_true, Bool.or_eq_true, Bool.and_eq_false_iff, Bool.or_eq_false_iff, Bool.not_eq_true', Bool.not_eq_false', decide_eq_true_eq, decide_eq_false_iff_not, beq_iff_eq, bne_iff_ne, beq_eq_false_iff_ne, bne_eq_false_iff_eq] at c161')
              have hix := fH_ok (g := A_g) (x := (x : Int)) (y := (y : Int)) (z := (z : Int)) (by assumption) ⟨by omega, by omega⟩ ⟨by omega, by omega⟩ ⟨by omega, by omega⟩
              simp only [fH] at hix
              refine wp_skip (hK159 _ _ ?_)
              refine wp_seq_k fun K162 hK162 => ?_
              refine wp_block ?_
              obtain ⟨el1, hel1⟩ : ∃ e, A_g.vals[(idxG A_g (IntKind.i64.wrap (2 * (x : Int))) (IntKind.i64.wrap (2 * (y : Int))) (IntKind.i64.wrap (2 * (z : Int)))).toNat]? = some e := ⟨_, List.getElem?_eq_getElem (by omega)⟩
              refine region_any2 [] [0, 1, 0, 4, 0, 16, 0, 64, 0, 256, 1008, 2044, 4092, 8188, 16383, 32767, 65535] [] (
                [FactW.pure [] [] [] true (fun v => v = (Pt b67 7)),
                  FactW.pure [0] [] [] true (fun v => v = (.slice p156 ((takG A_g (fH A_g) ((A_g.x + 1) / 2) ((A_g.y + 1) / 2) (cnt ((A_g.x + 1) / 2) ((A_g.y + 1) / 2) x y z)).length) q157)),
                  FactW.pure [] [] [] true (fun v => v = (Pt b15 7)),
                  FactW.pure [2] [] [] true (fun v => v = (.slice p11 A_g.vals.length q12)),
                  FactW.pure [] [] [] true (fun v => v = (Iv (x : Int))),
                  FactW.pure [4] [] [] true (fun v => v = (Iv (IntKind.i64.wrap (2 * (x : Int))))),
                  FactW.pure [] [] [] true (fun v => v = (Iv (y : Int))),
                  FactW.pure [6] [] [] true (fun v => v = (Iv (IntKind.i64.wrap (2 * (y : Int))))),
                  FactW.pure [] [] [] true (fun v => v = (Iv (z : Int))),
                  FactW.pure [8] [] [] true (fun v => v = (Iv (IntKind.i64.wrap (2 * (z : Int))))),
                  FactW.pure [5, 7, 9] [] [] true (fun v => v = (Iv (idxG A_g (IntKind.i64.wrap (2 * (x : Int))) (IntKind.i64.wrap (2 * (y : Int))) (IntKind.i64.wrap (2 * (z : Int)))))),
                  FactW.mem [3, 10] [] [] [] true (fun v w' => PtrR RF w' v el1) (by intro v w1 w2 hx' h; have hx := KpL.toExt hx'; exact h.ext RF.mono hx),
                  FactW.pure [11] [] [] true (fun v => ∃ r_1 : Nat, v = (Fl r_1) ∧ cf .f32 r_1 = el1),
                  FactW.mem [12] [] [] [] true (fun v w' => ∃ b : Nat, ∃ r_1 : Nat, v = .slice (some ⟨b, 0, none⟩) 1 1 ∧ w150.heap.size ≤ b ∧ Blk w' b [(Fl r_1)] ∧ cf .f32 r_1 = el1) (by rintro v w1 w2 hx' ⟨b, z0, rfl, hb, hB, k0⟩; have hx := KpL.toExt hx'; exact ⟨b, z0, rfl, hb, (hB.ext hx), k0⟩)]) mixed (by kernel_rfl) ?_
              obtain ⟨w163, hw165⟩ : ∃ w', w' = World.drew w150 := ⟨_, rfl⟩; rw [← hw165]; have E164 : Ext w150 w163 := by rw [hw165]; exact Ext.draw _
              clear hw165
              have X166 := Ext.gr X155 E164
              refine RW2_d _ rfl (fun v => by dsimp only [List.set]; try rfl) (fun u hu hF => ?_) (fun v167 => ?_)
              · replace hu : KpL [] _ _ := hu
                clear hF
                refine doesG_un rfl ?_
                refine (does_fieldAddr (ev rfl) fa31_5).mono ?_; rintro _ _ ⟨rfl, rfl⟩
                exact ⟨rfl, KpL.refl _ _⟩
              refine RW2_d _ rfl (fun v => by dsimp only [List.set]; try rfl) (fun u hu hF => ?_) (fun v168 => ?_)
              · replace hu : KpL [] _ _ := hu
                have h48_ : v167 = (Pt b67 7) := hF.1
                clear hF
                refine doesG_un rfl ?_
                obtain rfl := h48_
                refine (does_load (u := (.slice p156 ((takG A_g (fH A_g) ((A_g.x + 1) / 2) ((A_g.y + 1) / 2) (cnt ((A_g.x + 1) / 2) ((A_g.y + 1) / 2) x y z)).length) q157)) (ev rfl) Try.isAgg25 (Cells.at (Blk.cells ((hB154.ext E164).ext (KpL.toExt hu))) 7 rfl)).mono ?_; rintro _ _ ⟨rfl, rfl⟩
                exact ⟨rfl, KpL.refl _ _⟩
              refine RW2_d _ rfl (fun v => by dsimp only [List.set]; try rfl) (fun u hu hF => ?_) (fun v169 => ?_)
              · replace hu : KpL [] _ _ := hu
                clear hF
                refine doesG_un rfl ?_
                refine (does_fieldAddr (ev rfl) fa31_5).mono ?_; rintro _ _ ⟨rfl, rfl⟩
                exact ⟨rfl, KpL.refl _ _⟩
              refine RW2_d _ rfl (fun v => by dsimp only [List.set]; try rfl) (fun u hu hF => ?_) (fun v170 => ?_)
              · replace hu : KpL [] _ _ := hu
                have h50_ : v169 = (Pt b15 7) := hF.1
                clear hF
                refine doesG_un rfl ?_
                obtain rfl := h50_
                refine (does_load (u := (.slice p11 A_g.vals.length q12)) (ev rfl) Try.isAgg25 (Cells.at (Blk.cells (((((((((((hB17.ext E25).ext E32).ext E53).ext E60).ext E70).wr W76 (Nat.ne_of_lt n72)).kl E95 (ninS (Nat.ne_of_lt (Nat.lt_of_lt_of_le n62 hN90)) (ninS (Nat.ne_of_lt n72) nin0))).kl E123 (ninS n118 (ninS (Nat.ne_of_lt n72) nin0))).kl E151 (ninS n146 (ninS (Nat.ne_of_lt n72) nin0))).ext E164).ext (KpL.toExt hu))) 7 rfl)).mono ?_; rintro _ _ ⟨rfl, rfl⟩
                exact ⟨rfl, KpL.refl _ _⟩
              refine RW2_d _ rfl (fun v => by dsimp only [List.set]; try rfl) (fun u hu hF => ?_) (fun v171 => ?_)
              · replace hu : KpL [] _ _ := hu
                clear hF
                refine doesG_un rfl ?_
                refine (does_move (u := (Iv (x : Int))) (ev rfl)).mono ?_; rintro _ _ ⟨rfl, rfl⟩
                exact ⟨rfl, KpL.refl _ _⟩
              refine RW2_d _ rfl (fun v => by dsimp only [List.set]; try rfl) (fun u hu hF => ?_) (fun v172 => ?_)
              · replace hu : KpL [] _ _ := hu
                have h52_ : v171 = (Iv (x : Int)) := hF.1
                clear hF
                refine doesG_un rfl ?_
                obtain rfl := h52_
                refine (does_iarith (p := 2) (q := (x : Int)) (r := IntKind.i64.wrap (2 * (x : Int))) (ev rfl) (ev rfl) (.inr (.inr ⟨rfl, rfl⟩))).mono ?_; rintro _ _ ⟨rfl, rfl⟩
                exact ⟨rfl, KpL.refl _ _⟩
              refine RW2_d _ rfl (fun v => by dsimp only [List.set]; try rfl) (fun u hu hF => ?_) (fun v173 => ?_)
              · replace hu : KpL [] _ _ := hu
                clear hF
                refine doesG_un rfl ?_
                refine (does_move (u := (Iv (y : Int))) (ev rfl)).mono ?_; rintro _ _ ⟨rfl, rfl⟩
                exact ⟨rfl, KpL.refl _ _⟩
              refine RW2_d _ rfl (fun v => by dsimp only [List.set]; try rfl) (fun u hu hF => ?_) (fun v174 => ?_)
              · replace hu : KpL [] _ _ := hu
                have h54_ : v173 = (Iv (y : Int)) := hF.1
                clear hF
                refine doesG_un rfl ?_
                obtain rfl := h54_
                refine (does_iarith (p := 2) (q := (y : Int)) (r := IntKind.i64.wrap (2 * (y : Int))) (ev rfl) (ev rfl) (.inr (.inr ⟨rfl, rfl⟩))).mono ?_; rintro _ _ ⟨rfl, rfl⟩
                exact ⟨rfl, KpL.refl _ _⟩
              refine RW2_d _ rfl (fun v => by dsimp only [List.set]; try rfl) (fun u hu hF => ?_) (fun v175 => ?_)
              · replace hu : KpL [] _ _ := hu
                clear hF
                refine doesG_un rfl ?_
                refine (does_move (u := (Iv (z : Int))) (ev rfl)).mono ?_; rintro _ _ ⟨rfl, rfl⟩
                exact ⟨rfl, KpL.refl _ _⟩
              refine RW2_d _ rfl (fun v => by dsimp only [List.set]; try rfl) (fun u hu hF => ?_) (fun v176 => ?_)
              · replace hu : KpL [] _ _ := hu
                have h56_ : v175 = (Iv (z : Int)) := hF.1
                clear hF
                refine doesG_un rfl ?_
                obtain rfl := h56_
                refine (does_iarith (p := 2) (q := (z : Int)) (r := IntKind.i64.wrap (2 * (z : Int))) (ev rfl) (ev rfl) (.inr (.inr ⟨rfl, rfl⟩))).mono ?_; rintro _ _ ⟨rfl, rfl⟩
                exact ⟨rfl, KpL.refl _ _⟩
              refine RW2_d _ rfl (fun v => by dsimp only [List.set]; try rfl) (fun u hu hF => ?_) (fun v177 => ?_)
              · replace hu : KpL [] _ _ := hu
                have h53_ : v172 = (Iv (IntKind.i64.wrap (2 * (x : Int)))) := hF.1
                have h55_ : v174 = (Iv (IntKind.i64.wrap (2 * (y : Int)))) := hF.2.1
                have h57_ : v176 = (Iv (IntKind.i64.wrap (2 * (z : Int)))) := hF.2.2.1
                clear hF
                refine doesG_un rfl ?_
                obtain rfl := h53_
                obtain rfl := h55_
                obtain rfl := h57_
                refine (does_call (args := #[(Pt b15 0), (Iv (IntKind.i64.wrap (2 * (x : Int)))), (Iv (IntKind.i64.wrap (2 * (y : Int)))), (Iv (IntKind.i64.wrap (2 * (z : Int))))]) cal25 (evs rfl) (c_spec_l06Index b15 0 [(Fl r1), (Fl r3), (Fl r5), (Fl r7), (Iv A_g.x), (Iv A_g.y), (Iv A_g.z), (.slice p11 A_g.vals.length q12)] A_g (IntKind.i64.wrap (2 * (x : Int))) (IntKind.i64.wrap (2 * (y : Int))) (IntKind.i64.wrap (2 * (z : Int))) _ (Blk.cells (((((((((((hB17.ext E25).ext E32).ext E53).ext E60).ext E70).wr W76 (Nat.ne_of_lt n72)).kl E95 (ninS (Nat.ne_of_lt (Nat.lt_of_lt_of_le n62 hN90)) (ninS (Nat.ne_of_lt n72) nin0))).kl E123 (ninS n118 (ninS (Nat.ne_of_lt n72) nin0))).kl E151 (ninS n146 (ninS (Nat.ne_of_lt n72) nin0))).ext E164).ext (KpL.toExt hu))) ⟨r1, r3, r5, r7, (.slice p11 A_g.vals.length q12), rfl, h2, h4, h6, h8, (Sl.ext hs13 RF.mono (Ext.gr (Ext.gr X155 E164) (KpL.toExt hu)))⟩)).mono ?_; rintro v u' ⟨hx, hv⟩
                exact ⟨hv, (KpL.of_ext hx)⟩
              refine RW2_d _ rfl (fun v => by dsimp only [List.set]; try rfl) (fun u hu hF => ?_) (fun v178 => ?_)
              · replace hu : KpL [] _ _ := hu
                have h51_ : v170 = (.slice p11 A_g.vals.length q12) := hF.1
                have h58_ : v177 = (Iv (idxG A_g (IntKind.i64.wrap (2 * (x : Int))) (IntKind.i64.wrap (2 * (y : Int))) (IntKind.i64.wrap (2 * (z : Int))))) := hF.2.1
                clear hF
                refine doesG_un rfl ?_
                obtain rfl := h51_
                obtain rfl := h58_
                refine (does_indexSl (R := RF) (i := idxG A_g (IntKind.i64.wrap (2 * (x : Int))) (IntKind.i64.wrap (2 * (y : Int))) (IntKind.i64.wrap (2 * (z : Int)))) (xs := A_g.vals) (e := el1) Try.underlying25 Try.sizeOf22 (ev rfl) (ev rfl) (Sl.ext hs13 RF.mono (Ext.gr (Ext.gr X155 E164) (KpL.toExt hu))) (by omega) hel1).mono ?_; rintro v u' ⟨b, of, cs, hv, hc, hR, hu'⟩; subst hu'
                exact ⟨⟨b, of, cs, hv, hc, hR⟩, KpL.refl _ _⟩
              refine RW2_d _ rfl (fun v => by dsimp only [List.set]; try rfl) (fun u hu hF => ?_) (fun v179 => ?_)
              · replace hu : KpL [] _ _ := hu
                have h59_ : PtrR RF u v178 el1 := hF.1
                clear hF
                refine doesG_un rfl ?_
                obtain ⟨b59_, o59_, _, rfl, hc59_, ⟨r59_1, rfl, h59_2⟩⟩ := h59_
                refine (does_load (u := (Fl r59_1)) (ev rfl) Try.isAgg22 (Cells.at hc59_ 0 rfl)).mono ?_; rintro _ _ ⟨rfl, rfl⟩
                exact ⟨⟨r59_1, rfl, (by simp only [h59_2])⟩, KpL.refl _ _⟩
              refine RW2_d _ rfl (fun v => by dsimp only [List.set]; try rfl) (fun u hu hF => ?_) (fun v180 => ?_)
              · replace hu : KpL [] _ _ := hu
                have h60_ : ∃ r_1 : Nat, v179 = (Fl r_1) ∧ cf .f32 r_1 = el1 := hF.1
                clear hF
                refine doesG_un rfl ?_
                obtain ⟨r60_1, rfl, h60_2⟩ := h60_
                refine (does_buildSlice (e := 22) (parts' := [(0, (Fl r60_1))]) (cells := [(Fl r60_1)]) (evp rfl) (fun _ => by kernel_rfl)).mono ?_; rintro _ _ ⟨b, rfl, hb, hB, hx⟩
                exact ⟨⟨b, r60_1, rfl, Nat.le_trans (Nat.le_trans (Below.size E164) (KpL.size hu)) hb, hB, (by simp only [h60_2])⟩, (KpL.of_ext hx)⟩
              refine RW2_fin ?_; intro w181 E182 hP183; replace E182 : KpL [] _ _ := E182
              obtain ⟨⟨⟨⟨⟨⟨⟨⟨⟨⟨⟨⟨⟨⟨-, -⟩, q184⟩, -⟩, -⟩, -⟩, -⟩, -⟩, -⟩, -⟩, -⟩, -⟩, -⟩, -⟩, q185⟩ := hP183
              have X186 := Below.kl X166 E182 all0 (Nat.le_refl _)
              have q184 : v168 = (.slice p156 ((takG A_g (fH A_g) ((A_g.x + 1) / 2) ((A_g.y + 1) / 2) (cnt ((A_g.x + 1) / 2) ((A_g.y + 1) / 2) x y z)).length) q157) := q184 rfl
              obtain rfl := q184
              have q185 : ∃ b : Nat, ∃ r_1 : Nat, v180 = .slice (some ⟨b, 0, none⟩) 1 1 ∧ w150.heap.size ≤ b ∧ Blk w181 b [(Fl r_1)] ∧ cf .f32 r_1 = el1 := q185 rfl
              obtain ⟨b187, r190, rfl, hb188, hB189, h191⟩ := q185
              have n192 : b15 < b187 := Nat.lt_of_lt_of_le (Blk.lt (((((((((hB17.ext E25).ext E32).ext E53).ext E60).ext E70).wr W76 (Nat.ne_of_lt n72)).kl E95 (ninS (Nat.ne_of_lt (Nat.lt_of_lt_of_le n62 hN90)) (ninS (Nat.ne_of_lt n72) nin0))).kl E123 (ninS n118 (ninS (Nat.ne_of_lt n72) nin0))).kl E151 (ninS n146 (ninS (Nat.ne_of_lt n72) nin0)))) hb188
              have n193 : b22 < b187 := Nat.lt_of_lt_of_le (Blk.lt ((((((((hB24.ext E32).ext E53).ext E60).ext E70).wr W76 (Nat.ne_of_lt n73)).kl E95 (ninS (Nat.ne_of_lt (Nat.lt_of_lt_of_le n63 hN90)) (ninS (Nat.ne_of_lt n73) nin0))).kl E123 (ninS n119 (ninS (Nat.ne_of_lt n73) nin0))).kl E151 (ninS n147 (ninS (Nat.ne_of_lt n73) nin0)))) hb188
              have n194 : b67 < b187 := Nat.lt_of_lt_of_le (Blk.lt hB154) hb188
              have g195 : w.heap.size ≤ b187 := Nat.le_trans (Below.size X155) hb188
              show wpList _ _ _ _ (fr [(.agg #[(Fl r1), (Fl r3), (Fl r5), (Fl r7), (Iv A_g.x), (Iv A_g.y), (Iv A_g.z), (.slice p11 A_g.vals.length q12)]), (Pt b15 0), (Pt b22 0), (Bo false), (Pt b67 0), (Iv (z : Int)), (Iv (y : Int)), (Iv (x : Int)), (Bo (isGrid A_g)), (Bo (!(isGrid A_g))), Ud, (Pt b15 0), (.agg #[(Fl r1), (Fl r3), (Fl r5)]), (Pt b15 3), (Fl r7), (Fl r51), (Pt b15 4), (Iv A_g.x), (Iv (A_g.x + 1)), (Iv ((A_g.x + 1) / 2)), (Pt b15 5), (Iv A_g.y), (Iv (A_g.y + 1)), (Iv ((A_g.y + 1) / 2)), (Pt b15 6), (Iv A_g.z), (Iv (A_g.z + 1)), (Iv ((A_g.z + 1) / 2)), (.slice (some ⟨b56, 0, none⟩) 0 0), (.agg #[(Fl r1), (Fl r3), (Fl r5), (Fl r51), (Iv ((A_g.x + 1) / 2)), (Iv ((A_g.y + 1) / 2)), (Iv ((A_g.z + 1) / 2)), (.slice (some ⟨b56, 0, none⟩) 0 0)]), (Iv (z : Int)), (Pt b67 6), (Iv ((A_g.z + 1) / 2)), (Bo (icmp .lss (z : Int) ((A_g.z + 1) / 2))), (u82 34), (u82 35), (Iv (y : Int)), (Pt b67 5), (Iv ((A_g.y + 1) / 2)), (Bo (icmp .lss (y : Int) ((A_g.y + 1) / 2))), (u108 40), (u108 41), (Iv (x : Int)), (Pt b67 4), (Iv ((A_g.x + 1) / 2)), (Bo (icmp .lss (x : Int) ((A_g.x + 1) / 2))), (u136 46), (u136 47), v167, (.slice p156 ((takG A_g (fH A_g) ((A_g.x + 1) / 2) ((A_g.y + 1) / 2) (cnt ((A_g.x + 1) / 2) ((A_g.y + 1) / 2) x y z)).length) q157), v169, v170, v171, v172, v173, v174, v175, v176, v177, v178, v179, (.slice (some ⟨b187, 0, none⟩) 1 1), (u136 62), (u136 63), Ud, Ud, Ud, Ud]) _
              refine seqd rfl rfl (does_append (R := RF) (k := 1) (g0 := gg137) (B := w122.heap.size) (xs := (takG A_g (fH A_g) ((A_g.x + 1) / 2) ((A_g.y + 1) / 2) (cnt ((A_g.x + 1) / 2) ((A_g.y + 1) / 2) x y z))) (ys := [(cf .f32 r190)]) Try.underlying25 inf22 rfl (by decide) (ev rfl) (ev rfl) (Own.same hO153 RF.flat (((Same.refl _ _).ext E164).kl E182 all0) hN144 (Nat.le_trans (Nat.le_trans (Nat.le_trans (Nat.le_trans (Below.size E60) (Below.size E70)) (Nat.le_of_eq (Eq.symm (Wr.size W76)))) (KpL.size E95)) (KpL.size E123))) RF.flat hB189 rfl rfl rfl (fun i x hi => lit1 (R := RF) (cs := [(Fl r190)]) (y := (cf .f32 r190))  (⟨_, rfl, rfl⟩) i x hi) (by first | (simp only [List.length_append, List.length_cons, List.length_nil]; omega) | omega) (Nat.le_trans (Nat.le_trans (KpL.size E151) (Below.size E164)) (KpL.size E182))) ?_; rintro y' w196 ⟨gg197, hg198, K199, hO200⟩
              have hN201 : w54.heap.size ≤ gg197 := by rcases hg198 with h | h; exact h ▸ hN144; exact Nat.le_trans (Nat.le_trans (Nat.le_trans (Nat.le_trans (Nat.le_trans (Below.size E60) (Below.size E70)) (Nat.le_of_eq (Eq.symm (Wr.size W76)))) (KpL.size E95)) (KpL.size E123)) h
              have g202 : w.heap.size ≤ gg197 := Nat.le_trans (Below.size (Ext.gr (Ext.gr (Ext.gr (Ext.gr (Ext.refl _) E18) E25) E32) E53)) hN201
              have n203 : b15 ≠ gg197 := hg198.elim (fun h => by rw [h]; exact n146) (fun h => Nat.ne_of_lt (Nat.lt_of_lt_of_le n141 h))
              have n204 : b22 ≠ gg197 := hg198.elim (fun h => by rw [h]; exact n147) (fun h => Nat.ne_of_lt (Nat.lt_of_lt_of_le n142 h))
              have n205 : b67 ≠ gg197 := hg198.elim (fun h => by rw [h]; exact n148) (fun h => Nat.ne_of_lt (Nat.lt_of_lt_of_le n143 h))
              have X206 := Below.kl X186 K199 (allS g202 all0) (Nat.le_refl _)
              obtain ⟨p207, q208, rfl⟩ := Own.shape hO200
              have hH209 : Hang w54.heap.size w196 (fun u => Sl RF 1 u (.slice p207 (((takG A_g (fH A_g) ((A_g.x + 1) / 2) ((A_g.y + 1) / 2) (cnt ((A_g.x + 1) / 2) ((A_g.y + 1) / 2) x y z)) ++ [(cf .f32 r190)]).length) q208) ((takG A_g (fH A_g) ((A_g.x + 1) / 2) ((A_g.y + 1) / 2) (cnt ((A_g.x + 1) / 2) ((A_g.y + 1) / 2) x y z)) ++ [(cf .f32 r190)])) := Own.hang hO200 RF.flat (by decide) hN144 (Nat.le_trans (Nat.le_trans (Nat.le_trans (Nat.le_trans (Below.size E60) (Below.size E70)) (Nat.le_of_eq (Eq.symm (Wr.size W76)))) (KpL.size E95)) (KpL.size E123))
              show wpList _ _ _ _ (fr [(.agg #[(Fl r1), (Fl r3), (Fl r5), (Fl r7), (Iv A_g.x), (Iv A_g.y), (Iv A_g.z), (.slice p11 A_g.vals.length q12)]), (Pt b15 0), (Pt b22 0), (Bo false), (Pt b67 0), (Iv (z : Int)), (Iv (y : Int)), (Iv (x : Int)), (Bo (isGrid A_g)), (Bo (!(isGrid A_g))), Ud, (Pt b15 0), (.agg #[(Fl r1), (Fl r3), (Fl r5)]), (Pt b15 3), (Fl r7), (Fl r51), (Pt b15 4), (Iv A_g.x), (Iv (A_g.x + 1)), (Iv ((A_g.x + 1) / 2)), (Pt b15 5), (Iv A_g.y), (Iv (A_g.y + 1)), (Iv ((A_g.y + 1) / 2)), (Pt b15 6), (Iv A_g.z), (Iv (A_g.z + 1)), (Iv ((A_g.z + 1) / 2)), (.slice (some ⟨b56, 0, none⟩) 0 0), (.agg #[(Fl r1), (Fl r3), (Fl r5), (Fl r51), (Iv ((A_g.x + 1) / 2)), (Iv ((A_g.y + 1) / 2)), (Iv ((A_g.z + 1) / 2)), (.slice (some ⟨b56, 0, none⟩) 0 0)]), (Iv (z : Int)), (Pt b67 6), (Iv ((A_g.z + 1) / 2)), (Bo (icmp .lss (z : Int) ((A_g.z + 1) / 2))), (u82 34), (u82 35), (Iv (y : Int)), (Pt b67 5), (Iv ((A_g.y + 1) / 2)), (Bo (icmp .lss (y : Int) ((A_g.y + 1) / 2))), (u108 40), (u108 41), (Iv (x : Int)), (Pt b67 4), (Iv ((A_g.x + 1) / 2)), (Bo (icmp .lss (x : Int) ((A_g.x + 1) / 2))), (u136 46), (u136 47), v167, (.slice p156 ((takG A_g (fH A_g) ((A_g.x + 1) / 2) ((A_g.y + 1) / 2) (cnt ((A_g.x + 1) / 2) ((A_g.y + 1) / 2) x y z)).length) q157), v169, v170, v171, v172, v173, v174, v175, v176, v177, v178, v179, (.slice (some ⟨b187, 0, none⟩) 1 1), (.slice p207 (((takG A_g (fH A_g) ((A_g.x + 1) / 2) ((A_g.y + 1) / 2) (cnt ((A_g.x + 1) / 2) ((A_g.y + 1) / 2) x y z)) ++ [(cf .f32 r190)]).length) q208), (u136 63), Ud, Ud, Ud, Ud]) _
              refine q_is rfl rfl (does_fieldAddr (ev rfl) fa31_5) (by dsimp only [List.set]; try rfl) ?_
              refine seqn rfl rfl (does_store (n := 1) (cs := [(Fl r1), (Fl r3), (Fl r5), (Fl r51), (Iv ((A_g.x + 1) / 2)), (Iv ((A_g.y + 1) / 2)), (Iv ((A_g.z + 1) / 2)), (.slice p156 ((takG A_g (fH A_g) ((A_g.x + 1) / 2) ((A_g.y + 1) / 2) (cnt ((A_g.x + 1) / 2) ((A_g.y + 1) / 2) x y z)).length) q157)]) (u := (.slice p207 (((takG A_g (fH A_g) ((A_g.x + 1) / 2) ((A_g.y + 1) / 2) (cnt ((A_g.x + 1) / 2) ((A_g.y + 1) / 2) x y z)) ++ [(cf .f32 r190)]).length) q208)) (ev rfl) (ev rfl) Try.sizeOf25 rfl (((hB154.ext E164).kl E182 nin0).kl K199 (ninS n205 nin0)) (Nat.le_of_ble_eq_true rfl) rfl) ?_; rintro _ w212 ⟨rfl, W210, hB211⟩
              change Blk _ _ [(Fl r1), (Fl r3), (Fl r5), (Fl r51), (Iv ((A_g.x + 1) / 2)), (Iv ((A_g.y + 1) / 2)), (Iv ((A_g.z + 1) / 2)), (.slice p207 (((takG A_g (fH A_g) ((A_g.x + 1) / 2) ((A_g.y + 1) / 2) (cnt ((A_g.x + 1) / 2) ((A_g.y + 1) / 2) x y z)) ++ [(cf .f32 r190)]).length) q208)] at hB211
              have X213 := Below.wr X206 W210 g74
              refine wpList_nil (hK162 _ _ ?_)
              refine wp_region_lit ?_
              refine q_is rfl rfl (does_move (u := (Iv (x : Int))) (ev rfl)) (by dsimp only [List.set]; try rfl) ?_
              refine q_is rfl rfl (does_iarith (p := (x : Int)) (q := 1) (r := (x : Int) + 1) (ev rfl) (ev rfl) (.inl ⟨rfl, (in_i64 (by omega) (by omega)).symm⟩)) (by dsimp only [List.set]; try rfl) ?_
              refine q_is rfl rfl (does_assign (u := (Iv ((x : Int) + 1))) (ev rfl)) (by dsimp only [List.set]; try rfl) ?_
              refine wpList_nil ?_
              have hO214 := Own.cast (ys := ((fun (x : Nat) => takG A_g (fH A_g) ((A_g.x + 1) / 2) ((A_g.y + 1) / 2) (cnt ((A_g.x + 1) / 2) ((A_g.y + 1) / 2) x y z)) (x + 1))) (Own.kl hO200 RF.flat (KpL.of_wr W210) (allS ⟨n148, .inl n143⟩ all0)) (by (try dsimp only); first | exact (tak_step (by omega) (by omega) (by assumption)).symm | (simp only [h2, h4, h6, h8, h52, hel1, h191]; exact (tak_step (by omega) (by omega) (by assumption)).symm))
              refine ⟨x + 1, ⟨fun t => (([(.agg #[(Fl r1), (Fl r3), (Fl r5), (Fl r7), (Iv A_g.x), (Iv A_g.y), (Iv A_g.z), (.slice p11 A_g.vals.length q12)]), (Pt b15 0), (Pt b22 0), (Bo false), (Pt b67 0), (Iv (z : Int)), (Iv (y : Int)), (Iv ((x : Int) + 1)), (Bo (isGrid A_g)), (Bo (!(isGrid A_g))), Ud, (Pt b15 0), (.agg #[(Fl r1), (Fl r3), (Fl r5)]), (Pt b15 3), (Fl r7), (Fl r51), (Pt b15 4), (Iv A_g.x), (Iv (A_g.x + 1)), (Iv ((A_g.x + 1) / 2)), (Pt b15 5), (Iv A_g.y), (Iv (A_g.y + 1)), (Iv ((A_g.y + 1) / 2)), (Pt b15 6), (Iv A_g.z), (Iv (A_g.z + 1)), (Iv ((A_g.z + 1) / 2)), (.slice (some ⟨b56, 0, none⟩) 0 0), (.agg #[(Fl r1), (Fl r3), (Fl r5), (Fl r51), (Iv ((A_g.x + 1) / 2)), (Iv ((A_g.y + 1) / 2)), (Iv ((A_g.z + 1) / 2)), (.slice (some ⟨b56, 0, none⟩) 0 0)]), (Iv (z : Int)), (Pt b67 6), (Iv ((A_g.z + 1) / 2)), (Bo (icmp .lss (z : Int) ((A_g.z + 1) / 2))), (u82 34), (u82 35), (Iv (y : Int)), (Pt b67 5), (Iv ((A_g.y + 1) / 2)), (Bo (icmp .lss (y : Int) ((A_g.y + 1) / 2))), (u108 40), (u108 41), (Iv (x : Int)), (Pt b67 4), (Iv ((A_g.x + 1) / 2)), (Bo (icmp .lss (x : Int) ((A_g.x + 1) / 2))), (Iv (x : Int)), (Iv ((x : Int) + 1)), v167, (.slice p156 ((takG A_g (fH A_g) ((A_g.x + 1) / 2) ((A_g.y + 1) / 2) (cnt ((A_g.x + 1) / 2) ((A_g.y + 1) / 2) x y z)).length) q157), v169, v170, v171, v172, v173, v174, v175, v176, v177, v178, v179, (.slice (some ⟨b187, 0, none⟩) 1 1), (.slice p207 (((takG A_g (fH A_g) ((A_g.x + 1) / 2) ((A_g.y + 1) / 2) (cnt ((A_g.x + 1) / 2) ((A_g.y + 1) / 2) x y z)) ++ [(cf .f32 r190)]).length) q208), (Pt b67 7), Ud, Ud, Ud, Ud] : List Value)[t]?).getD undef, (.slice p207 (((takG A_g (fH A_g) ((A_g.x + 1) / 2) ((A_g.y + 1) / 2) (cnt ((A_g.x + 1) / 2) ((A_g.y + 1) / 2) x y z)) ++ [(cf .f32 r190)]).length) q208), ?_, (KpL.more (KpL.more (KpL.more (KpL.ext E151 E164) E182 all0) K199 (allS (hg198.imp (fun h => by simp [h]) id) all0)) (KpL.of_wr W210) (allS (.inl (by simp)) all0)), hO214, hB211, ?_⟩, ?_⟩
              · first | rfl | (simp only [Nat.cast_add, Nat.cast_one, Int.natCast_add, Int.natCast_one]; rfl)
              · (try dsimp only); (try dsimp only); omega
              · (try dsimp only); omega
            have c161' := c161
            (try simp only [icmp, Bool.and_eq_true, Bool.or_eq_true, Bool.and_eq_false_iff, Bool.or_eq_false_iff, Bool.not_eq_true', Bool.not_eq_false', decide_eq_true_eq, decide_eq_false_iff_not, beq_iff_eq, bne_iff_ne, beq_eq_false_iff_ne, bne_eq_false_iff_eq] at c161')
            refine wp_exit ?_
            refine hK134 _ _ ?_
            refine wp_region_lit ?_
            refine q_is rfl rfl (does_move (u := (Iv (y : Int))) (ev rfl)) (by dsimp only [List.set]; try rfl) ?_
            refine q_is rfl rfl (does_iarith (p := (y : Int)) (q := 1) (r := (y : Int) + 1) (ev rfl) (ev rfl) (.inl ⟨rfl, (in_i64 (by omega) (by omega)).symm⟩)) (by dsimp only [List.set]; try rfl) ?_
            refine q_is rfl rfl (does_assign (u := (Iv ((y : Int) + 1))) (ev rfl)) (by dsimp only [List.set]; try rfl) ?_
            refine wpList_nil ?_
            have hO215 := Own.cast (ys := ((fun (y : Nat) => takG A_g (fH A_g) ((A_g.x + 1) / 2) ((A_g.y + 1) / 2) (cnt ((A_g.x + 1) / 2) ((A_g.y + 1) / 2) 0 y z)) (y + 1))) (Own.back hO153 hg138 (KpL.size E123)) (by (try dsimp only); rw [cnt_row (by omega)])
            refine ⟨y + 1, ⟨fun t => (([(.agg #[(Fl r1), (Fl r3), (Fl r5), (Fl r7), (Iv A_g.x), (Iv A_g.y), (Iv A_g.z), (.slice p11 A_g.vals.length q12)]), (Pt b15 0), (Pt b22 0), (Bo false), (Pt b67 0), (Iv (z : Int)), (Iv ((y : Int) + 1)), (Iv (x : Int)), (Bo (isGrid A_g)), (Bo (!(isGrid A_g))), Ud, (Pt b15 0), (.agg #[(Fl r1), (Fl r3), (Fl r5)]), (Pt b15 3), (Fl r7), (Fl r51), (Pt b15 4), (Iv A_g.x), (Iv (A_g.x + 1)), (Iv ((A_g.x + 1) / 2)), (Pt b15 5), (Iv A_g.y), (Iv (A_g.y + 1)), (Iv ((A_g.y + 1) / 2)), (Pt b15 6), (Iv A_g.z), (Iv (A_g.z + 1)), (Iv ((A_g.z + 1) / 2)), (.slice (some ⟨b56, 0, none⟩) 0 0), (.agg #[(Fl r1), (Fl r3), (Fl r5), (Fl r51), (Iv ((A_g.x + 1) / 2)), (Iv ((A_g.y + 1) / 2)), (Iv ((A_g.z + 1) / 2)), (.slice (some ⟨b56, 0, none⟩) 0 0)]), (Iv (z : Int)), (Pt b67 6), (Iv ((A_g.z + 1) / 2)), (Bo (icmp .lss (z : Int) ((A_g.z + 1) / 2))), (u82 34), (u82 35), (Iv (y : Int)), (Pt b67 5), (Iv ((A_g.y + 1) / 2)), (Bo (icmp .lss (y : Int) ((A_g.y + 1) / 2))), (Iv (y : Int)), (Iv ((y : Int) + 1)), (Iv (x : Int)), (Pt b67 4), (Iv ((A_g.x + 1) / 2)), (Bo (icmp .lss (x : Int) ((A_g.x + 1) / 2))), (u136 46), (u136 47), (u136 48), (u136 49), (u136 50), (u136 51), (u136 52), (u136 53), (u136 54), (u136 55), (u136 56), (u136 57), (u136 58), (u136 59), (u136 60), (u136 61), (u136 62), (u136 63), Ud, Ud, Ud, Ud] : List Value)[t]?).getD undef, (.slice p156 ((takG A_g (fH A_g) ((A_g.x + 1) / 2) ((A_g.y + 1) / 2) (cnt ((A_g.x + 1) / 2) ((A_g.y + 1) / 2) x y z)).length) q157), ?_, (KpL.more E123 E151 (allS (hg138.imp (fun h => by simp [h]) id) (allS (.inl (by simp)) all0))), hO215, hB154, ?_⟩, ?_⟩
            · first | rfl | (simp only [Nat.cast_add, Nat.cast_one, Int.natCast_add, Int.natCast_one]; rfl)
            · (try dsimp only); (try dsimp only); omega
            · (try dsimp only); omega
        have c133' := c133
        (try simp only [icmp, Bool.and_eq_true, Bool.or_eq_true, Bool.and_eq_false_iff, Bool.or_eq_false_iff, Bool.not_eq_true', Bool.not_eq_false', decide_eq_true_eq, decide_eq_false_iff_not, beq_iff_eq, bne_iff_ne, beq_eq_false_iff_ne, bne_eq_false_iff_eq] at c133')
        refine wp_exit ?_
        refine hK106 _ _ ?_
        refine wp_region_lit ?_
        refine q_is rfl rfl (does_move (u := (Iv (z : Int))) (ev rfl)) (by dsimp only [List.set]; try rfl) ?_
        refine q_is rfl rfl (does_iarith (p := (z : Int)) (q := 1) (r := (z : Int) + 1) (ev rfl) (ev rfl) (.inl ⟨rfl, (in_i64 (by omega) (by omega)).symm⟩)) (by dsimp only [List.set]; try rfl) ?_
        refine q_is rfl rfl (does_assign (u := (Iv ((z : Int) + 1))) (ev rfl)) (by dsimp only [List.set]; try rfl) ?_
        refine wpList_nil ?_
        have hO216 := Own.cast (ys := ((fun (z : Nat) => takG A_g (fH A_g) ((A_g.x + 1) / 2) ((A_g.y + 1) / 2) (cnt ((A_g.x + 1) / 2) ((A_g.y + 1) / 2) 0 0 z)) (z + 1))) (Own.back hO125 hg110 (KpL.size E95)) (by (try dsimp only); rw [cnt_plane (by omega)])
        refine ⟨z + 1, ⟨fun t => (([(.agg #[(Fl r1), (Fl r3), (Fl r5), (Fl r7), (Iv A_g.x), (Iv A_g.y), (Iv A_g.z), (.slice p11 A_g.vals.length q12)]), (Pt b15 0), (Pt b22 0), (Bo false), (Pt b67 0), (Iv ((z : Int) + 1)), (Iv (y : Int)), (u108 7), (Bo (isGrid A_g)), (Bo (!(isGrid A_g))), Ud, (Pt b15 0), (.agg #[(Fl r1), (Fl r3), (Fl r5)]), (Pt b15 3), (Fl r7), (Fl r51), (Pt b15 4), (Iv A_g.x), (Iv (A_g.x + 1)), (Iv ((A_g.x + 1) / 2)), (Pt b15 5), (Iv A_g.y), (Iv (A_g.y + 1)), (Iv ((A_g.y + 1) / 2)), (Pt b15 6), (Iv A_g.z), (Iv (A_g.z + 1)), (Iv ((A_g.z + 1) / 2)), (.slice (some ⟨b56, 0, none⟩) 0 0), (.agg #[(Fl r1), (Fl r3), (Fl r5), (Fl r51), (Iv ((A_g.x + 1) / 2)), (Iv ((A_g.y + 1) / 2)), (Iv ((A_g.z + 1) / 2)), (.slice (some ⟨b56, 0, none⟩) 0 0)]), (Iv (z : Int)), (Pt b67 6), (Iv ((A_g.z + 1) / 2)), (Bo (icmp .lss (z : Int) ((A_g.z + 1) / 2))), (Iv (z : Int)), (Iv ((z : Int) + 1)), (Iv (y : Int)), (Pt b67 5), (Iv ((A_g.y + 1) / 2)), (Bo (icmp .lss (y : Int) ((A_g.y + 1) / 2))), (u108 40), (u108 41), (u108 42), (u108 43), (u108 44), (u108 45), (u108 46), (u108 47), (u108 48), (u108 49), (u108 50), (u108 51), (u108 52), (u108 53), (u108 54), (u108 55), (u108 56), (u108 57), (u108 58), (u108 59), (u108 60), (u108 61), (u108 62), (u108 63), Ud, Ud, Ud, Ud] : List Value)[t]?).getD undef, (.slice p128 ((takG A_g (fH A_g) ((A_g.x + 1) / 2) ((A_g.y + 1) / 2) (cnt ((A_g.x + 1) / 2) ((A_g.y + 1) / 2) 0 y z)).length) q129), ?_, (KpL.more E95 E123 (allS (hg110.imp (fun h => by simp [h]) id) (allS (.inl (by simp)) all0))), hO216, hB126, ?_⟩, ?_⟩
        · first | rfl | (simp only [Nat.cast_add, Nat.cast_one, Int.natCast_add, Int.natCast_one]; rfl)
        · (try dsimp only); (try dsimp only); omega
        · (try dsimp only); omega
    have c105' := c105
    (try simp only [icmp, Bool.and_eq_true, Bool.or_eq_true, Bool.and_eq_false_iff, Bool.or_eq_false_iff, Bool.not_eq_true', Bool.not_eq_false', decide_eq_true_eq, decide_eq_false_iff_not, beq_iff_eq, bne_iff_ne, beq_eq_false_iff_ne, bne_eq_false_iff_eq] at c105')
    refine wp_exit ?_
    refine hK80 _ _ ?_
    refine wp_seq_k fun K217 hK217 => ?_
    refine wp_seq_k fun K218 hK218 => ?_
    refine wp_region_lit ?_
    refine seqd rfl rfl (does_call (args := #[(Pt b67 0)]) cal24 (evs rfl) (c_spec_l06Is b67 0 [(Fl r1), (Fl r3), (Fl r5), (Fl r51), (Iv ((A_g.x + 1) / 2)), (Iv ((A_g.y + 1) / 2)), (Iv ((A_g.z + 1) / 2)), (.slice p100 ((takG A_g (fH A_g) ((A_g.x + 1) / 2) ((A_g.y + 1) / 2) (cnt ((A_g.x + 1) / 2) ((A_g.y + 1) / 2) 0 0 z)).length) q101)] (GridT.mk A_g.low (cf .f32 r51) ((A_g.x + 1) / 2) ((A_g.y + 1) / 2) ((A_g.z + 1) / 2) (takG A_g (fH A_g) ((A_g.x + 1) / 2) ((A_g.y + 1) / 2) (cnt ((A_g.x + 1) / 2) ((A_g.y + 1) / 2) 0 0 z))) _ (Blk.cells hB98) ⟨r1, r3, r5, r51, (.slice p100 ((takG A_g (fH A_g) ((A_g.x + 1) / 2) ((A_g.y + 1) / 2) (cnt ((A_g.x + 1) / 2) ((A_g.y + 1) / 2) 0 0 z)).length) q101), rfl, h2, h4, h6, rfl, hH102.get⟩)) ?_; rintro _ w220 ⟨E219, rfl⟩
    have X221 := Ext.gr X99 E219
    show wpList _ _ _ _ (fr [(.agg #[(Fl r1), (Fl r3), (Fl r5), (Fl r7), (Iv A_g.x), (Iv A_g.y), (Iv A_g.z), (.slice p11 A_g.vals.length q12)]), (Pt b15 0), (Pt b22 0), (Bo false), (Pt b67 0), (Iv (z : Int)), (u82 6), (u82 7), (Bo (isGrid A_g)), (Bo (!(isGrid A_g))), Ud, (Pt b15 0), (.agg #[(Fl r1), (Fl r3), (Fl r5)]), (Pt b15 3), (Fl r7), (Fl r51), (Pt b15 4), (Iv A_g.x), (Iv (A_g.x + 1)), (Iv ((A_g.x + 1) / 2)), (Pt b15 5), (Iv A_g.y), (Iv (A_g.y + 1)), (Iv ((A_g.y + 1) / 2)), (Pt b15 6), (Iv A_g.z), (Iv (A_g.z + 1)), (Iv ((A_g.z + 1) / 2)), (.slice (some ⟨b56, 0, none⟩) 0 0), (.agg #[(Fl r1), (Fl r3), (Fl r5), (Fl r51), (Iv ((A_g.x + 1) / 2)), (Iv ((A_g.y + 1) / 2)), (Iv ((A_g.z + 1) / 2)), (.slice (some ⟨b56, 0, none⟩) 0 0)]), (Iv (z : Int)), (Pt b67 6), (Iv ((A_g.z + 1) / 2)), (Bo (icmp .lss (z : Int) ((A_g.z + 1) / 2))), (u82 34), (u82 35), (u82 36), (u82 37), (u82 38), (u82 39), (u82 40), (u82 41), (u82 42), (u82 43), (u82 44), (u82 45), (u82 46), (u82 47), (u82 48), (u82 49), (u82 50), (u82 51), (u82 52), (u82 53), (u82 54), (u82 55), (u82 56), (u82 57), (u82 58), (u82 59), (u82 60), (u82 61), (u82 62), (u82 63), (Bo (isGrid (GridT.mk A_g.low (cf .f32 r51) ((A_g.x + 1) / 2) ((A_g.y + 1) / 2) ((A_g.z + 1) / 2) (takG A_g (fH A_g) ((A_g.x + 1) / 2) ((A_g.y + 1) / 2) (cnt ((A_g.x + 1) / 2) ((A_g.y + 1) / 2) 0 0 z))))), Ud, Ud, Ud]) _
    refine q_is rfl rfl (does_not (ev rfl)) (by dsimp only [List.set]; try rfl) ?_
    refine wpList_nil (hK218 _ _ ?_)
    refine wp_cond_split (t := !(isGrid (GridT.mk A_g.low (cf .f32 r51) ((A_g.x + 1) / 2) ((A_g.y + 1) / 2) ((A_g.z + 1) / 2) (takG A_g (fH A_g) ((A_g.x + 1) / 2) ((A_g.y + 1) / 2) (cnt ((A_g.x + 1) / 2) ((A_g.y + 1) / 2) 0 0 z))))) (ev rfl) (fun c222 => ?_) (fun c222 => ?_)
    · rw [Bool.not_eq_true'] at c222
      have c222' := c222
      refine wp_seq_k fun K223 hK223 => ?_
      refine wp_region_lit ?_
      refine q_is rfl rfl (does_build (parts' := []) (cells := #[(Fl 0), (Fl 0), (Fl 0), (Fl 0), (Iv 0), (Iv 0), (Iv 0), (.slice none 0 0)]) (evp rfl) (by kernel_rfl)) (by dsimp only [List.set]; try rfl) ?_
      refine seqn rfl rfl (does_store (n := 8) (cs := [(Fl 0), (Fl 0), (Fl 0), (Fl 0), (Iv 0), (Iv 0), (Iv 0), (.slice none 0 0)]) (u := (.agg #[(Fl 0), (Fl 0), (Fl 0), (Fl 0), (Iv 0), (Iv 0), (Iv 0), (.slice none 0 0)])) (ev rfl) (ev rfl) Try.sizeOf31 rfl (((((((hB24.ext E32).ext E53).ext E60).ext E70).wr W76 (Nat.ne_of_lt n73)).kl E95 (ninS (Nat.ne_of_lt (Nat.lt_of_lt_of_le n63 hN90)) (ninS (Nat.ne_of_lt n73) nin0))).ext E219) (Nat.le_of_ble_eq_true rfl) rfl) ?_; rintro _ w226 ⟨rfl, W224, hB225⟩
      change Blk _ _ [(Fl 0), (Fl 0), (Fl 0), (Fl 0), (Iv 0), (Iv 0), (Iv 0), (.slice none 0 0)] at hB225
      have X227 := Below.wr X221 W224 g28
      refine q_is rfl rfl (does_assign (u := (Bo false)) (ev rfl)) (by dsimp only [List.set]; try rfl) ?_
      refine wpList_nil (hK223 _ _ ?_)
      refine wp_ret ?_
      dsimp only [Exit.then, Exit.inBlock]
      refine ret_val (v := (.tuple #[(.agg #[(Fl 0), (Fl 0), (Fl 0), (Fl 0), (Iv 0), (Iv 0), (Iv 0), (.slice none 0 0)]), (Bo false)])) (res_CT rfl (slot rfl) (run_loadAgg (cs := [(Fl 0), (Fl 0), (Fl 0), (Fl 0), (Iv 0), (Iv 0), (Iv 0), (.slice none 0 0)]) Try.isAgg31 Try.sizeOf31 (Blk.cells hB225) rfl) (slot rfl)) X227 ?_
      try simp only [h2, h4, h6, h8, h52] at c35 c105 c222
      have x228 : (halOk A_g) = false := by first | exact halOk_f (by assumption) | (rw [halR_f (by assumption)] <;> rfl) | (rw [halOk_t (by assumption)] <;> first | assumption | rfl) | (rw [halOk_t ‹isGrid A_g = true›, halG_end ‹isGrid A_g = true› (by assumption) (by omega)] <;> assumption) | (rw [halR_t ‹isGrid A_g = true›, halG_end ‹isGrid A_g = true› (z := z) (by assumption) (by omega), ‹isGrid (GridT.mk _ _ _ _ _ _) = false›] <;> rfl) | (rw [halR_t ‹isGrid A_g = true›, halG_end ‹isGrid A_g = true› (z := z) (by assumption) (by omega), ‹isGrid (GridT.mk _ _ _ _ _ _) = true›, gvA_t] <;> first | rfl | assumption | (simp only [h2, h4, h6, h8, h52, c35, c105, c222]; done)) | (rw [halR_t ‹isGrid A_g = true›] <;> first | rfl | assumption) | (rw [halOk_t ‹isGrid A_g = true›]; simp only [h2, h4, h6, h8, h52, c35, c105, c222]; rfl) | (rw [halR_t ‹isGrid A_g = true›]; simp only [h2, h4, h6, h8, h52, c35, c105, c222]; rfl)
      have x229 : cf .f32 0 = (halR A_g).low.x := by first | exact halOk_f (by assumption) | (rw [halR_f (by assumption)] <;> rfl) | (rw [halOk_t (by assumption)] <;> first | assumption | rfl) | (rw [halOk_t ‹isGrid A_g = true›, halG_end ‹isGrid A_g = true› (by assumption) (by omega)] <;> assumption) | (rw [halR_t ‹isGrid A_g = true›, halG_end ‹isGrid A_g = true› (z := z) (by assumption) (by omega), ‹isGrid (GridT.mk _ _ _ _ _ _) = false›] <;> rfl) | (rw [halR_t ‹isGrid A_g = true›, halG_end ‹isGrid A_g = true› (z := z) (by assumption) (by omega), ‹isGrid (GridT.mk _ _ _ _ _ _) = true›, gvA_t] <;> first | rfl | assumption | (simp only [h2, h4, h6, h8, h52, c35, c105, c222]; done)) | (rw [halR_t ‹isGrid A_g = true›] <;> first | rfl | assumption) | (rw [halOk_t ‹isGrid A_g = true›]; simp only [h2, h4, h6, h8, h52, c35, c105, c222]; rfl) | (rw [halR_t ‹isGrid A_g = true›]; simp only [h2, h4, h6, h8, h52, c35, c105, c222]; rfl)
      have x230 : cf .f32 0 = (halR A_g).low.y := by first | exact halOk_f (by assumption) | (rw [halR_f (by assumption)] <;> rfl) | (rw [halOk_t (by assumption)] <;> first | assumption | rfl) | (rw [halOk_t ‹isGrid A_g = true›, halG_end ‹isGrid A_g = true› (by assumption) (by omega)] <;> assumption) | (rw [halR_t ‹isGrid A_g = true›, halG_end ‹isGrid A_g = true› (z := z) (by assumption) (by omega), ‹isGrid (GridT.mk _ _ _ _ _ _) = false›] <;> rfl) | (rw [halR_t ‹isGrid A_g = true›, halG_end ‹isGrid A_g = true› (z := z) (by assumption) (by omega), ‹isGrid (GridT.mk _ _ _ _ _ _) = true›, gvA_t] <;> first | rfl | assumption | (simp only [h2, h4, h6, h8, h52, c35, c105, c222]; done)) | (rw [halR_t ‹isGrid A_g = true›] <;> first | rfl | assumption) | (rw [halOk_t ‹isGrid A_g = true›]; simp only [h2, h4, h6, h8, h52, c35, c105, c222]; rfl) | (rw [halR_t ‹isGrid A_g = true›]; simp only [h2, h4, h6, h8, h52, c35, c105, c222]; rfl)
      have x231 : cf .f32 0 = (halR A_g).low.z := by first | exact halOk_f (by assumption) | (rw [halR_f (by assumption)] <;> rfl) | (rw [halOk_t (by assumption)] <;> first | assumption | rfl) | (rw [halOk_t ‹isGrid A_g = true›, halG_end ‹isGrid A_g = true› (by assumption) (by omega)] <;> assumption) | (rw [halR_t ‹isGrid A_g = true›, halG_end ‹isGrid A_g = true› (z := z) (by assumption) (by omega), ‹isGrid (GridT.mk _ _ _ _ _ _) = false›] <;> rfl) | (rw [halR_t ‹isGrid A_g = true›, halG_end ‹isGrid A_g = true› (z := z) (by assumption) (by omega), ‹isGrid (GridT.mk _ _ _ _ _ _) = true›, gvA_t] <;> first | rfl | assumption | (simp only [h2, h4, h6, h8, h52, c35, c105, c222]; done)) | (rw [halR_t ‹isGrid A_g = true›] <;> first | rfl | assumption) | (rw [halOk_t ‹isGrid A_g = true›]; simp only [h2, h4, h6, h8, h52, c35, c105, c222]; rfl) | (rw [halR_t ‹isGrid A_g = true›]; simp only [h2, h4, h6, h8, h52, c35, c105, c222]; rfl)
      have x232 : cf .f32 0 = (halR A_g).step := by first | exact halOk_f (by assumption) | (rw [halR_f (by assumption)] <;> rfl) | (rw [halOk_t (by assumption)] <;> first | assumption | rfl) | (rw [halOk_t ‹isGrid A_g = true›, halG_end ‹isGrid A_g = true› (by assumption) (by omega)] <;> assumption) | (rw [halR_t ‹isGrid A_g = true›, halG_end ‹isGrid A_g = true› (z := z) (by assumption) (by omega), ‹isGrid (GridT.mk _ _ _ _ _ _) = false›] <;> rfl) | (rw [halR_t ‹isGrid A_g = true›, halG_end ‹isGrid A_g = true› (z := z) (by assumption) (by omega), ‹isGrid (GridT.mk _ _ _ _ _ _) = true›, gvA_t] <;> first | rfl | assumption | (simp only [h2, h4, h6, h8, h52, c35, c105, c222]; done)) | (rw [halR_t ‹isGrid A_g = true›] <;> first | rfl | assumption) | (rw [halOk_t ‹isGrid A_g = true›]; simp only [h2, h4, h6, h8, h52, c35, c105, c222]; rfl) | (rw [halR_t ‹isGrid A_g = true›]; simp only [h2, h4, h6, h8, h52, c35, c105, c222]; rfl)
      have x233 : (halR A_g).x = 0 := by first | exact halOk_f (by assumption) | (rw [halR_f (by assumption)] <;> rfl) | (rw [halOk_t (by assumption)] <;> first | assumption | rfl) | (rw [halOk_t ‹isGrid A_g = true›, halG_end ‹isGrid A_g = true› (by assumption) (by omega)] <;> assumption) | (rw [halR_t ‹isGrid A_g = true›, halG_end ‹isGrid A_g = true› (z := z) (by assumption) (by omega), ‹isGrid (GridT.mk _ _ _ _ _ _) = false›] <;> rfl) | (rw [halR_t ‹isGrid A_g = true›, halG_end ‹isGrid A_g = true› (z := z) (by assumption) (by omega), ‹isGrid (GridT.mk _ _ _ _ _ _) = true›, gvA_t] <;> first | rfl | assumption | (simp only [h2, h4, h6, h8, h52, c35, c105, c222]; done)) | (rw [halR_t ‹isGrid A_g = true›] <;> first | rfl | assumption) | (rw [halOk_t ‹isGrid A_g = true›]; simp only [h2, h4, h6, h8, h52, c35, c105, c222]; rfl) | (rw [halR_t ‹isGrid A_g = true›]; simp only [h2, h4, h6, h8, h52, c35, c105, c222]; rfl)
      have x234 : (halR A_g).y = 0 := by first | exact halOk_f (by assumption) | (rw [halR_f (by assumption)] <;> rfl) | (rw [halOk_t (by assumption)] <;> first | assumption | rfl) | (rw [halOk_t ‹isGrid A_g = true›, halG_end ‹isGrid A_g = true› (by assumption) (by omega)] <;> assumption) | (rw [halR_t ‹isGrid A_g = true›, halG_end ‹isGrid A_g = true› (z := z) (by assumption) (by omega), ‹isGrid (GridT.mk _ _ _ _ _ _) = false›] <;> rfl) | (rw [halR_t ‹isGrid A_g = true›, halG_end ‹isGrid A_g = true› (z := z) (by assumption) (by omega), ‹isGrid (GridT.mk _ _ _ _ _ _) = true›, gvA_t] <;> first | rfl | assumption | (simp only [h2, h4, h6, h8, h52, c35, c105, c222]; done)) | (rw [halR_t ‹isGrid A_g = true›] <;> first | rfl | assumption) | (rw [halOk_t ‹isGrid A_g = true›]; simp only [h2, h4, h6, h8, h52, c35, c105, c222]; rfl) | (rw [halR_t ‹isGrid A_g = true›]; simp only [h2, h4, h6, h8, h52, c35, c105, c222]; rfl)
      have x235 : (halR A_g).z = 0 := by first | exact halOk_f (by assumption) | (rw [halR_f (by assumption)] <;> rfl) | (rw [halOk_t (by assumption)] <;> first | assumption | rfl) | (rw [halOk_t ‹isGrid A_g = true›, halG_end ‹isGrid A_g = true› (by assumption) (by omega)] <;> assumption) | (rw [halR_t ‹isGrid A_g = true›, halG_end ‹isGrid A_g = true› (z := z) (by assumption) (by omega), ‹isGrid (GridT.mk _ _ _ _ _ _) = false›] <;> rfl) | (rw [halR_t ‹isGrid A_g = true›, halG_end ‹isGrid A_g = true› (z := z) (by assumption) (by omega), ‹isGrid (GridT.mk _ _ _ _ _ _) = true›, gvA_t] <;> first | rfl | assumption | (simp only [h2, h4, h6, h8, h52, c35, c105, c222]; done)) | (rw [halR_t ‹isGrid A_g = true›] <;> first | rfl | assumption) | (rw [halOk_t ‹isGrid A_g = true›]; simp only [h2, h4, h6, h8, h52, c35, c105, c222]; rfl) | (rw [halR_t ‹isGrid A_g = true›]; simp only [h2, h4, h6, h8, h52, c35, c105, c222]; rfl)
      have x236 : ([]) = ((halR A_g).vals) := by first | exact halOk_f (by assumption) | (rw [halR_f (by assumption)] <;> rfl) | (rw [halOk_t (by assumption)] <;> first | assumption | rfl) | (rw [halOk_t ‹isGrid A_g = true›, halG_end ‹isGrid A_g = true› (by assumption) (by omega)] <;> assumption) | (rw [halR_t ‹isGrid A_g = true›, halG_end ‹isGrid A_g = true› (z := z) (by assumption) (by omega), ‹isGrid (GridT.mk _ _ _ _ _ _) = false›] <;> rfl) | (rw [halR_t ‹isGrid A_g = true›, halG_end ‹isGrid A_g = true› (z := z) (by assumption) (by omega), ‹isGrid (GridT.mk _ _ _ _ _ _) = true›, gvA_t] <;> first | rfl | assumption | (simp only [h2, h4, h6, h8, h52, c35, c105, c222]; done)) | (rw [halR_t ‹isGrid A_g = true›] <;> first | rfl | assumption) | (rw [halOk_t ‹isGrid A_g = true›]; simp only [h2, h4, h6, h8, h52, c35, c105, c222]; rfl) | (rw [halR_t ‹isGrid A_g = true›]; simp only [h2, h4, h6, h8, h52, c35, c105, c222]; rfl)
      exact ⟨[(Fl 0), (Fl 0), (Fl 0), (Fl 0), (Iv 0), (Iv 0), (Iv 0), (.slice none 0 0)], (by first | rfl | rw [x228]), fun u hu => ⟨0, 0, 0, 0, (.slice none 0 0), (by first | with_reducible rfl | (show _ = _; simp only [x233, x234, x235]) | rfl), x229, x230, x231, x232, (Hang.castL (Sl.hang_nil _ _ _ _) x236) u hu⟩⟩
    rw [Bool.not_eq_false'] at c222
    have c222' := c222
    refine wp_skip (hK217 _ _ ?_)
    refine wp_seq_k fun K237 hK237 => ?_
    refine wp_region_lit ?_
    refine q_is rfl rfl (does_loadAgg (cs := [(Fl r1), (Fl r3), (Fl r5), (Fl r51), (Iv ((A_g.x + 1) / 2)), (Iv ((A_g.y + 1) / 2)), (Iv ((A_g.z + 1) / 2)), (.slice p100 ((takG A_g (fH A_g) ((A_g.x + 1) / 2) ((A_g.y + 1) / 2) (cnt ((A_g.x + 1) / 2) ((A_g.y + 1) / 2) 0 0 z)).length) q101)]) (ev rfl) Try.isAgg31 Try.sizeOf31 (Blk.cells (hB98.ext E219)) rfl) (by dsimp only [List.set]; try rfl) ?_
    refine seqn rfl rfl (does_store (n := 8) (cs := [(Fl 0), (Fl 0), (Fl 0), (Fl 0), (Iv 0), (Iv 0), (Iv 0), (.slice none 0 0)]) (u := (.agg #[(Fl r1), (Fl r3), (Fl r5), (Fl r51), (Iv ((A_g.x + 1) / 2)), (Iv ((A_g.y + 1) / 2)), (Iv ((A_g.z + 1) / 2)), (.slice p100 ((takG A_g (fH A_g) ((A_g.x + 1) / 2) ((A_g.y + 1) / 2) (cnt ((A_g.x + 1) / 2) ((A_g.y + 1) / 2) 0 0 z)).length) q101)])) (ev rfl) (ev rfl) Try.sizeOf31 rfl (((((((hB24.ext E32).ext E53).ext E60).ext E70).wr W76 (Nat.ne_of_lt n73)).kl E95 (ninS (Nat.ne_of_lt (Nat.lt_of_lt_of_le n63 hN90)) (ninS (Nat.ne_of_lt n73) nin0))).ext E219) (Nat.le_of_ble_eq_true rfl) rfl) ?_; rintro _ w240 ⟨rfl, W238, hB239⟩
    change Blk _ _ [(Fl r1), (Fl r3), (Fl r5), (Fl r51), (Iv ((A_g.x + 1) / 2)), (Iv ((A_g.y + 1) / 2)), (Iv ((A_g.z + 1) / 2)), (.slice p100 ((takG A_g (fH A_g) ((A_g.x + 1) / 2) ((A_g.y + 1) / 2) (cnt ((A_g.x + 1) / 2) ((A_g.y + 1) / 2) 0 0 z)).length) q101)] at hB239
    have X241 := Below.wr X221 W238 g28
    refine q_is rfl rfl (does_assign (u := (Bo true)) (ev rfl)) (by dsimp only [List.set]; try rfl) ?_
    refine wpList_nil (hK237 _ _ ?_)
    refine wp_ret ?_
    refine ret_val (v := (.tuple #[(.agg #[(Fl r1), (Fl r3), (Fl r5), (Fl r51), (Iv ((A_g.x + 1) / 2)), (Iv ((A_g.y + 1) / 2)), (Iv ((A_g.z + 1) / 2)), (.slice p100 ((takG A_g (fH A_g) ((A_g.x + 1) / 2) ((A_g.y + 1) / 2) (cnt ((A_g.x + 1) / 2) ((A_g.y + 1) / 2) 0 0 z)).length) q101)]), (Bo true)])) (res_CT rfl (slot rfl) (run_loadAgg (cs := [(Fl r1), (Fl r3), (Fl r5), (Fl r51), (Iv ((A_g.x + 1) / 2)), (Iv ((A_g.y + 1) / 2)), (Iv ((A_g.z + 1) / 2)), (.slice p100 ((takG A_g (fH A_g) ((A_g.x + 1) / 2) ((A_g.y + 1) / 2) (cnt ((A_g.x + 1) / 2) ((A_g.y + 1) / 2) 0 0 z)).length) q101)]) Try.isAgg31 Try.sizeOf31 (Blk.cells hB239) rfl) (slot rfl)) X241 ?_
    try simp only [h2, h4, h6, h8, h52] at c35 c105 c222
    have x242 : (halOk A_g) = true := by first | exact halOk_f (by assumption) | (rw [halR_f (by assumption)] <;> rfl) | (rw [halOk_t (by assumption)] <;> first | assumption | rfl) | (rw [halOk_t ‹isGrid A_g = true›, halG_end ‹isGrid A_g = true› (by assumption) (by omega)] <;> assumption) | (rw [halR_t ‹isGrid A_g = true›, halG_end ‹isGrid A_g = true› (z := z) (by assumption) (by omega), ‹isGrid (GridT.mk _ _ _ _ _ _) = false›] <;> rfl) | (rw [halR_t ‹isGrid A_g = true›, halG_end ‹isGrid A_g = true› (z := z) (by assumption) (by omega), ‹isGrid (GridT.mk _ _ _ _ _ _) = true›, gvA_t] <;> first | rfl | assumption | (simp only [h2, h4, h6, h8, h52, c35, c105, c222]; done)) | (rw [halR_t ‹isGrid A_g = true›] <;> first | rfl | assumption) | (rw [halOk_t ‹isGrid A_g = true›]; simp only [h2, h4, h6, h8, h52, c35, c105, c222]; rfl) | (rw [halR_t ‹isGrid A_g = true›]; simp only [h2, h4, h6, h8, h52, c35, c105, c222]; rfl)
    have x243 : cf .f32 r1 = (halR A_g).low.x := by first | exact halOk_f (by assumption) | (rw [halR_f (by assumption)] <;> rfl) | (rw [halOk_t (by assumption)] <;> first | assumption | rfl) | (rw [halOk_t ‹isGrid A_g = true›, halG_end ‹isGrid A_g = true› (by assumption) (by omega)] <;> assumption) | (rw [halR_t ‹isGrid A_g = true›, halG_end ‹isGrid A_g = true› (z := z) (by assumption) (by omega), ‹isGrid (GridT.mk _ _ _ _ _ _) = false›] <;> rfl) | (rw [halR_t ‹isGrid A_g = true›, halG_end ‹isGrid A_g = true› (z := z) (by assumption) (by omega), ‹isGrid (GridT.mk _ _ _ _ _ _) = true›, gvA_t] <;> first | rfl | assumption | (simp only [h2, h4, h6, h8, h52, c35, c105, c222]; done)) | (rw [halR_t ‹isGrid A_g = true›] <;> first | rfl | assumption) | (rw [halOk_t ‹isGrid A_g = true›]; simp only [h2, h4, h6, h8, h52, c35, c105, c222]; rfl) | (rw [halR_t ‹isGrid A_g = true›]; simp only [h2, h4, h6, h8, h52, c35, c105, c222]; rfl)
    have x244 : cf .f32 r3 = (halR A_g).low.y := by first | exact halOk_f (by assumption) | (rw [halR_f (by assumption)] <;> rfl) | (rw [halOk_t (by assumption)] <;> first | assumption | rfl) | (rw [halOk_t ‹isGrid A_g = true›, halG_end ‹isGrid A_g = true› (by assumption) (by omega)] <;> assumption) | (rw [halR_t ‹isGrid A_g = true›, halG_end ‹isGrid A_g = true› (z := z) (by assumption) (by omega), ‹isGrid (GridT.mk _ _ _ _ _ _) = false›] <;> rfl) | (rw [halR_t ‹isGrid A_g = true›, halG_end ‹isGrid A_g = true› (z := z) (by assumption) (by omega), ‹isGrid (GridT.mk _ _ _ _ _ _) = true›, gvA_t] <;> first | rfl | assumption | (simp only [h2, h4, h6, h8, h52, c35, c105, c222]; done)) | (rw [halR_t ‹isGrid A_g = true›] <;> first | rfl | assumption) | (rw [halOk_t ‹isGrid A_g = true›]; simp only [h2, h4, h6, h8, h52, c35, c105, c222]; rfl) | (rw [halR_t ‹isGrid A_g = true›]; simp only [h2, h4, h6, h8, h52, c35, c105, c222]; rfl)
    have x245 : cf .f32 r5 = (halR A_g).low.z := by first | exact halOk_f (by assumption) | (rw [halR_f (by assumption)] <;> rfl) | (rw [halOk_t (by assumption)] <;> first | assumption | rfl) | (rw [halOk_t ‹isGrid A_g = true›, halG_end ‹isGrid A_g = true› (by assumption) (by omega)] <;> assumption) | (rw [halR_t ‹isGrid A_g = true›, halG_end ‹isGrid A_g = true› (z := z) (by assumption) (by omega), ‹isGrid (GridT.mk _ _ _ _ _ _) = false›] <;> rfl) | (rw [halR_t ‹isGrid A_g = true›, halG_end ‹isGrid A_g = true› (z := z) (by assumption) (by omega), ‹isGrid (GridT.mk _ _ _ _ _ _) = true›, gvA_t] <;> first | rfl | assumption | (simp only [h2, h4, h6, h8, h52, c35, c105, c222]; done)) | (rw [halR_t ‹isGrid A_g = true›] <;> first | rfl | assumption) | (rw [halOk_t ‹isGrid A_g = true›]; simp only [h2, h4, h6, h8, h52, c35, c105, c222]; rfl) | (rw [halR_t ‹isGrid A_g = true›]; simp only [h2, h4, h6, h8, h52, c35, c105, c222]; rfl)
    have x246 : cf .f32 r51 = (halR A_g).step := by first | exact halOk_f (by assumption) | (rw [halR_f (by assumption)] <;> rfl) | (rw [halOk_t (by assumption)] <;> first | assumption | rfl) | (rw [halOk_t ‹isGrid A_g = true›, halG_end ‹isGrid A_g = true› (by assumption) (by omega)] <;> assumption) | (rw [halR_t ‹isGrid A_g = true›, halG_end ‹isGrid A_g = true› (z := z) (by assumption) (by omega), ‹isGrid (GridT.mk _ _ _ _ _ _) = false›] <;> rfl) | (rw [halR_t ‹isGrid A_g = true›, halG_end ‹isGrid A_g = true› (z := z) (by assumption) (by omega), ‹isGrid (GridT.mk _ _ _ _ _ _) = true›, gvA_t] <;> first | rfl | assumption | (simp only [h2, h4, h6, h8, h52, c35, c105, c222]; done)) | (rw [halR_t ‹isGrid A_g = true›] <;> first | rfl | assumption) | (rw [halOk_t ‹isGrid A_g = true›]; simp only [h2, h4, h6, h8, h52, c35, c105, c222]; rfl) | (rw [halR_t ‹isGrid A_g = true›]; simp only [h2, h4, h6, h8, h52, c35, c105, c222]; rfl)
    have x247 : (halR A_g).x = ((A_g.x + 1) / 2) := by first | exact halOk_f (by assumption) | (rw [halR_f (by assumption)] <;> rfl) | (rw [halOk_t (by assumption)] <;> first | assumption | rfl) | (rw [halOk_t ‹isGrid A_g = true›, halG_end ‹isGrid A_g = true› (by assumption) (by omega)] <;> assumption) | (rw [halR_t ‹isGrid A_g = true›, halG_end ‹isGrid A_g = true› (z := z) (by assumption) (by omega), ‹isGrid (GridT.mk _ _ _ _ _ _) = false›] <;> rfl) | (rw [halR_t ‹isGrid A_g = true›, halG_end ‹isGrid A_g = true› (z := z) (by assumption) (by omega), ‹isGrid (GridT.mk _ _ _ _ _ _) = true›, gvA_t] <;> first | rfl | assumption | (simp only [h2, h4, h6, h8, h52, c35, c105, c222]; done)) | (rw [halR_t ‹isGrid A_g = true›] <;> first | rfl | assumption) | (rw [halOk_t ‹isGrid A_g = true›]; simp only [h2, h4, h6, h8, h52, c35, c105, c222]; rfl) | (rw [halR_t ‹isGrid A_g = true›]; simp only [h2, h4, h6, h8, h52, c35, c105, c222]; rfl)
    have x248 : (halR A_g).y = ((A_g.y + 1) / 2) := by first | exact halOk_f (by assumption) | (rw [halR_f (by assumption)] <;> rfl) | (rw [halOk_t (by assumption)] <;> first | assumption | rfl) | (rw [halOk_t ‹isGrid A_g = true›, halG_end ‹isGrid A_g = true› (by assumption) (by omega)] <;> assumption) | (rw [halR_t ‹isGrid A_g = true›, halG_end ‹isGrid A_g = true› (z := z) (by assumption) (by omega), ‹isGrid (GridT.mk _ _ _ _ _ _) = false›] <;> rfl) | (rw [halR_t ‹isGrid A_g = true›, halG_end ‹isGrid A_g = true› (z := z) (by assumption) (by omega), ‹isGrid (GridT.mk _ _ _ _ _ _) = true›, gvA_t] <;> first | rfl | assumption | (simp only [h2, h4, h6, h8, h52, c35, c105, c222]; done)) | (rw [halR_t ‹isGrid A_g = true›] <;> first | rfl | assumption) | (rw [halOk_t ‹isGrid A_g = true›]; simp only [h2, h4, h6, h8, h52, c35, c105, c222]; rfl) | (rw [halR_t ‹isGrid A_g = true›]; simp only [h2, h4, h6, h8, h52, c35, c105, c222]; rfl)
    have x249 : (halR A_g).z = ((A_g.z + 1) / 2) := by first | exact halOk_f (by assumption) | (rw [halR_f (by assumption)] <;> rfl) | (rw [halOk_t (by assumption)] <;> first | assumption | rfl) | (rw [halOk_t ‹isGrid A_g = true›, halG_end ‹isGrid A_g = true› (by assumption) (by omega)] <;> assumption) | (rw [halR_t ‹isGrid A_g = true›, halG_end ‹isGrid A_g = true› (z := z) (by assumption) (by omega), ‹isGrid (GridT.mk _ _ _ _ _ _) = false›] <;> rfl) | (rw [halR_t ‹isGrid A_g = true›, halG_end ‹isGrid A_g = true› (z := z) (by assumption) (by omega), ‹isGrid (GridT.mk _ _ _ _ _ _) = true›, gvA_t] <;> first | rfl | assumption | (simp only [h2, h4, h6, h8, h52, c35, c105, c222]; done)) | (rw [halR_t ‹isGrid A_g = true›] <;> first | rfl | assumption) | (rw [halOk_t ‹isGrid A_g = true›]; simp only [h2, h4, h6, h8, h52, c35, c105, c222]; rfl) | (rw [halR_t ‹isGrid A_g = true›]; simp only [h2, h4, h6, h8, h52, c35, c105, c222]; rfl)
    have x250 : (takG A_g (fH A_g) ((A_g.x + 1) / 2) ((A_g.y + 1) / 2) (cnt ((A_g.x + 1) / 2) ((A_g.y + 1) / 2) 0 0 z)) = ((halR A_g).vals) := by first | exact halOk_f (by assumption) | (rw [halR_f (by assumption)] <;> rfl) | (rw [halOk_t (by assumption)] <;> first | assumption | rfl) | (rw [halOk_t ‹isGrid A_g = true›, halG_end ‹isGrid A_g = true› (by assumption) (by omega)] <;> assumption) | (rw [halR_t ‹isGrid A_g = true›, halG_end ‹isGrid A_g = true› (z := z) (by assumption) (by omega), ‹isGrid (GridT.mk _ _ _ _ _ _) = false›] <;> rfl) | (rw [halR_t ‹isGrid A_g = true›, halG_end ‹isGrid A_g = true› (z := z) (by assumption) (by omega), ‹isGrid (GridT.mk _ _ _ _ _ _) = true›, gvA_t] <;> first | rfl | assumption | (simp only [h2, h4, h6, h8, h52, c35, c105, c222]; done)) | (rw [halR_t ‹isGrid A_g = true›] <;> first | rfl | assumption) | (rw [halOk_t ‹isGrid A_g = true›]; simp only [h2, h4, h6, h8, h52, c35, c105, c222]; rfl) | (rw [halR_t ‹isGrid A_g = true›]; simp only [h2, h4, h6, h8, h52, c35, c105, c222]; rfl)
    exact ⟨[(Fl r1), (Fl r3), (Fl r5), (Fl r51), (Iv ((A_g.x + 1) / 2)), (Iv ((A_g.y + 1) / 2)), (Iv ((A_g.z + 1) / 2)), (.slice p100 ((takG A_g (fH A_g) ((A_g.x + 1) / 2) ((A_g.y + 1) / 2) (cnt ((A_g.x + 1) / 2) ((A_g.y + 1) / 2) 0 0 z)).length) q101)], (by first | rfl | rw [x242]), fun u hu => ⟨r1, r3, r5, r51, (.slice p100 ((takG A_g (fH A_g) ((A_g.x + 1) / 2) ((A_g.y + 1) / 2) (cnt ((A_g.x + 1) / 2) ((A_g.y + 1) / 2) 0 0 z)).length) q101), (by first | with_reducible rfl | (show _ = _; simp only [x247, x248, x249]) | rfl), x243, x244, x245, x246, (Hang.castL (Own.hang (Own.same hO97 RF.flat (((Same.refl _ _).ext E219).wr W238 (.inl n63)) hN90 (Nat.le_trans (Nat.le_trans (Below.size E60) (Below.size E70)) (Nat.le_of_eq (Eq.symm (Wr.size W76))))) RF.flat (by decide) (Nat.le_trans (Nat.le_trans (Nat.le_trans (Nat.le_trans (Below.size E18) (Below.size E25)) (Below.size E32)) (Below.size E53)) hN90) (Nat.le_trans (Nat.le_trans (Nat.le_trans (Nat.le_trans (Below.size E18) (Below.size E25)) (Below.size E32)) (Below.size E53)) (Nat.le_trans (Nat.le_trans (Below.size E60) (Below.size E70)) (Nat.le_of_eq (Eq.symm (Wr.size W76)))))) x250) u hu⟩⟩

/- laws.toVector -/
theorem c_laws_toVector (a : List Value) (A_a : V3) (w : World) (hv_a : RV3 w A_a a) : Gives Try.prog 26 #[(.agg a.toArray)] w (fun v w' => ∃ cs_1 : List Value, v = (.agg cs_1.toArray) ∧ RV3 w A_a cs_1) := by
  obtain ⟨r1, r3, r5, rfl, h2, h4, h6⟩ := hv_a
  refine enter [(.agg #[(Fl r1), (Fl r3), (Fl r5)]), Ud, Ud, Ud, Ud, Ud, Ud, Ud, Ud, Ud, Ud, Ud, Ud, Ud] Try.func26 rfl Try.ntmps26 rfl ?_
  refine wp_seq_k fun K7 hK7 => ?_
  refine wp_region_lit ?_
  refine seqd rfl rfl (does_box (u := (.agg #[(Fl r1), (Fl r3), (Fl r5)])) (ev rfl)) ?_; rintro _ w12 ⟨b8, rfl, hb9, hB10, E11⟩
  have g13 : w.heap.size ≤ b8 := Nat.le_trans (Below.size (Ext.refl w)) hb9
  change Blk _ _ [(Fl r1), (Fl r3), (Fl r5)] at hB10
  have X14 := Ext.gr (Ext.refl w) E11
  show wpList _ _ _ _ (fr [(.agg #[(Fl r1), (Fl r3), (Fl r5)]), (Pt b8 0), Ud, Ud, Ud, Ud, Ud, Ud, Ud, Ud, Ud, Ud, Ud, Ud]) _
  refine seqd rfl rfl (does_alloc z29) ?_; rintro _ w19 ⟨b15, rfl, hb16, hB17, E18⟩
  have n20 : b8 < b15 := Nat.lt_of_lt_of_le (Blk.lt hB10) hb16
  have g21 : w.heap.size ≤ b15 := Nat.le_trans (Below.size X14) hb16
  change Blk _ _ [(Fl 0), (Fl 0), (Fl 0)] at hB17
  have X22 := Ext.gr X14 E18
  show wpList _ _ _ _ (fr [(.agg #[(Fl r1), (Fl r3), (Fl r5)]), (Pt b8 0), (Pt b15 0), Ud, Ud, Ud, Ud, Ud, Ud, Ud, Ud, Ud, Ud, Ud]) _
  refine wpList_nil (hK7 _ _ ?_)
  refine wp_seq_k fun K23 hK23 => ?_
  refine wp_region_lit ?_
  refine seqd rfl rfl (does_alloc z29) ?_; rintro _ w28 ⟨b24, rfl, hb25, hB26, E27⟩
  have n29 : b8 < b24 := Nat.lt_of_lt_of_le (Blk.lt (hB10.ext E18)) hb25
  have n30 : b15 < b24 := Nat.lt_of_lt_of_le (Blk.lt hB17) hb25
  have g31 : w.heap.size ≤ b24 := Nat.le_trans (Below.size X22) hb25
  change Blk _ _ [(Fl 0), (Fl 0), (Fl 0)] at hB26
  have X32 := Ext.gr X22 E27
  show wpList _ _ _ _ (fr [(.agg #[(Fl r1), (Fl r3), (Fl r5)]), (Pt b8 0), (Pt b15 0), (Pt b24 0), Ud, Ud, Ud, Ud, Ud, Ud, Ud, Ud, Ud, Ud]) _
  refine wpList_nil (hK23 _ _ ?_)
  refine wp_seq_k fun K33 hK33 => ?_
  refine wp_region_lit ?_
  refine q_is (l' := [(.agg #[(Fl r1), (Fl r3), (Fl r5)]), (Pt b8 0), (Pt b15 0), (Pt b24 0), (Pt b8 0), Ud, Ud, Ud, Ud, Ud, Ud, Ud, Ud, Ud]) rfl rfl (does_fieldAddr (ev rfl) fa24_0) rfl ?_
  refine q_is (l' := [(.agg #[(Fl r1), (Fl r3), (Fl r5)]), (Pt b8 0), (Pt b15 0), (Pt b24 0), (Pt b8 0), (Fl r1), Ud, Ud, Ud, Ud, Ud, Ud, Ud, Ud]) rfl rfl (does_load (u := (Fl r1)) (ev rfl) Try.isAgg22 (Cells.at (Blk.cells ((hB10.ext E18).ext E27)) 0 rfl)) rfl ?_
  refine q_is (l' := [(.agg #[(Fl r1), (Fl r3), (Fl r5)]), (Pt b8 0), (Pt b15 0), (Pt b24 0), (Pt b8 0), (Fl r1), (Pt b24 0), Ud, Ud, Ud, Ud, Ud, Ud, Ud]) rfl rfl (does_fieldAddr (ev rfl) fa29_0) rfl ?_
  refine seqn rfl rfl (does_store (n := 1) (cs := [(Fl 0), (Fl 0), (Fl 0)]) (u := (Fl r1)) (ev rfl) (ev rfl) Try.sizeOf22 rfl hB26 (Nat.le_of_ble_eq_true rfl) rfl) ?_; rintro _ w36 ⟨rfl, W34, hB35⟩
  change Blk _ _ [(Fl r1), (Fl 0), (Fl 0)] at hB35
  have X37 := Below.wr X32 W34 g31
  refine wpList_nil (hK33 _ _ ?_)
  refine wp_seq_k fun K38 hK38 => ?_
  refine wp_region_lit ?_
  refine q_is (l' := [(.agg #[(Fl r1), (Fl r3), (Fl r5)]), (Pt b8 0), (Pt b15 0), (Pt b24 0), (Pt b8 0), (Fl r1), (Pt b24 0), (Pt b8 1), Ud, Ud, Ud, Ud, Ud, Ud]) rfl rfl (does_fieldAddr (ev rfl) fa24_1) rfl ?_
  refine q_is (l' := [(.agg #[(Fl r1), (Fl r3), (Fl r5)]), (Pt b8 0), (Pt b15 0), (Pt b24 0), (Pt b8 0), (Fl r1), (Pt b24 0), (Pt b8 1), (Fl r3), Ud, Ud, Ud, Ud, Ud]) rfl rfl (does_load (u := (Fl r3)) (ev rfl) Try.isAgg22 (Cells.at (Blk.cells (((hB10.ext E18).ext E27).wr W34 (Nat.ne_of_lt n29))) 1 rfl)) rfl ?_
  refine q_is (l' := [(.agg #[(Fl r1), (Fl r3), (Fl r5)]), (Pt b8 0), (Pt b15 0), (Pt b24 0), (Pt b8 0), (Fl r1), (Pt b24 0), (Pt b8 1), (Fl r3), (Pt b24 1), Ud, Ud, Ud, Ud]) rfl rfl (does_fieldAddr (ev rfl) fa29_1) rfl ?_
  refine seqn rfl rfl (does_store (n := 1) (cs := [(Fl r1), (Fl 0), (Fl 0)]) (u := (Fl r3)) (ev rfl) (ev rfl) Try.sizeOf22 rfl hB35 (Nat.le_of_ble_eq_true rfl) rfl) ?_; rintro _ w41 ⟨rfl, W39, hB40⟩
  change Blk _ _ [(Fl r1), (Fl r3), (Fl 0)] at hB40
  have X42 := Below.wr X37 W39 g31
  refine wpList_nil (hK38 _ _ ?_)
  refine wp_seq_k fun K43 hK43 => ?_
  refine wp_region_lit ?_
  refine q_is (l' := [(.agg #[(Fl r1), (Fl r3), (Fl r5)]), (Pt b8 0), (Pt b15 0), (Pt b24 0), (Pt b8 0), (Fl r1), (Pt b24 0), (Pt b8 1), (Fl r3), (Pt b24 1), (Pt b8 2), Ud, Ud, Ud]) rfl rfl (does_fieldAddr (ev rfl) fa24_2) rfl ?_
  refine q_is (l' := [(.agg #[(Fl r1), (Fl r3), (Fl r5)]), (Pt b8 0), (Pt b15 0), (Pt b24 0), (Pt b8 0), (Fl r1), (Pt b24 0), (Pt b8 1), (Fl r3), (Pt b24 1), (Pt b8 2), (Fl r5), Ud, Ud]) rfl rfl (does_load (u := (Fl r5)) (ev rfl) Try.isAgg22 (Cells.at (Blk.cells ((((hB10.ext E18).ext E27).wr W34 (Nat.ne_of_lt n29)).wr W39 (Nat.ne_of_lt n29))) 2 rfl)) rfl ?_
  refine q_is (l' := [(.agg #[(Fl r1), (Fl r3), (Fl r5)]), (Pt b8 0), (Pt b15 0), (Pt b24 0), (Pt b8 0), (Fl r1), (Pt b24 0), (Pt b8 1), (Fl r3), (Pt b24 1), (Pt b8 2), (Fl r5), (Pt b24 2), Ud]) rfl rfl (does_fieldAddr (ev rfl) fa29_2) rfl ?_
  refine seqn rfl rfl (does_store (n := 1) (cs := [(Fl r1), (Fl r3), (Fl 0)]) (u := (Fl r5)) (ev rfl) (ev rfl) Try.sizeOf22 rfl hB40 (Nat.le_of_ble_eq_true rfl) rfl) ?_; rintro _ w46 ⟨rfl, W44, hB45⟩
  change Blk _ _ [(Fl r1), (Fl r3), (Fl r5)] at hB45
  have X47 := Below.wr X42 W44 g31
  refine wpList_nil (hK43 _ _ ?_)
  refine wp_seq_k fun K48 hK48 => ?_
  refine wp_region_lit ?_
  refine q_is (l' := [(.agg #[(Fl r1), (Fl r3), (Fl r5)]), (Pt b8 0), (Pt b15 0), (Pt b24 0), (Pt b8 0), (Fl r1), (Pt b24 0), (Pt b8 1), (Fl r3), (Pt b24 1), (Pt b8 2), (Fl r5), (Pt b24 2), (.agg #[(Fl r1), (Fl r3), (Fl r5)])]) rfl rfl (does_loadAgg (cs := [(Fl r1), (Fl r3), (Fl r5)]) (ev rfl) Try.isAgg29 Try.sizeOf29 (Blk.cells hB45) rfl) rfl ?_
  refine seqn rfl rfl (does_store (n := 3) (cs := [(Fl 0), (Fl 0), (Fl 0)]) (u := (.agg #[(Fl r1), (Fl r3), (Fl r5)])) (ev rfl) (ev rfl) Try.sizeOf29 rfl ((((hB17.ext E27).wr W34 (Nat.ne_of_lt n30)).wr W39 (Nat.ne_of_lt n30)).wr W44 (Nat.ne_of_lt n30)) (Nat.le_of_ble_eq_true rfl) rfl) ?_; rintro _ w51 ⟨rfl, W49, hB50⟩
  change Blk _ _ [(Fl r1), (Fl r3), (Fl r5)] at hB50
  have X52 := Below.wr X47 W49 g21
  refine wpList_nil (hK48 _ _ ?_)
  refine wp_ret ?_
  refine ret_val (v := (.agg #[(Fl r1), (Fl r3), (Fl r5)])) (res_C rfl (slot rfl) (run_loadAgg (cs := [(Fl r1), (Fl r3), (Fl r5)]) Try.isAgg29 Try.sizeOf29 (Blk.cells hB50) rfl)) X52 ?_
  exact ⟨[(Fl r1), (Fl r3), (Fl r5)], rfl, ⟨r1, r3, r5, rfl, h2, h4, h6⟩⟩

/- laws.toFloat32S -/
theorem c_laws_toFloat32S (a : Value) (L_a : List Nat) (w : World) (hv_a : Sl RF 1 w a L_a) (hsz : L_a.length ≤ 1048576) : Gives Try.prog 27 #[a] w (fun v w' => ∃ y_1 : Value, ∃ Lw_2 : List Nat, v = y_1 ∧ Hang w.heap.size w' (fun u => Sl RF 1 u y_1 L_a) ∧ WL 1 w.heap.size w' Lw_2 y_1 L_a.length) := by
  have hlen_a := Sl.len hv_a; obtain ⟨p_a, q_a, rfl⟩ := Sl.shape hv_a
  refine enter [(.slice p_a L_a.length q_a), Ud, Ud, Ud, Ud, Ud, Ud, Ud, Ud, Ud, Ud, Ud, Ud, Ud, Ud, Ud, Ud, Ud, Ud, Ud, Ud, Ud] Try.func27 rfl Try.ntmps27 rfl ?_
  refine wp_seq_k fun K1 hK1 => ?_
  refine wp_region_lit ?_
  refine q_is (l' := [(.slice p_a L_a.length q_a), Ud, (.slice none 0 0), Ud, Ud, Ud, Ud, Ud, Ud, Ud, Ud, Ud, Ud, Ud, Ud, Ud, Ud, Ud, Ud, Ud, Ud, Ud]) rfl rfl (does_assign (u := (.slice none 0 0)) (ev rfl)) rfl ?_
  refine wpList_nil (hK1 _ _ ?_)
  refine wp_seq_k fun K2 hK2 => ?_
  refine wp_region_lit ?_
  refine q_is (l' := [(.slice p_a L_a.length q_a), Ud, (.slice none 0 0), Ud, Ud, (.slice p_a L_a.length q_a), Ud, Ud, Ud, Ud, Ud, Ud, Ud, Ud, Ud, Ud, Ud, Ud, Ud, Ud, Ud, Ud]) rfl rfl (does_move (u := (.slice p_a L_a.length q_a)) (ev rfl)) rfl ?_
  refine q_is (l' := [(.slice p_a L_a.length q_a), Ud, (.slice none 0 0), Ud, Ud, (.slice p_a L_a.length q_a), (Iv (L_a.length : Int)), Ud, Ud, Ud, Ud, Ud, Ud, Ud, Ud, Ud, Ud, Ud, Ud, Ud, Ud, Ud]) rfl rfl (does_len_slice Try.underlying25 (ev rfl)) rfl ?_
  refine seqd rfl rfl (does_makeSlice (n := L_a.length) Try.underlying25 inf22 (ev rfl) (ev rfl) (by omega)) ?_; rintro _ w7 ⟨b3, rfl, hb4, ⟨cs8, hB5, hl9, hz10⟩, E6⟩
  have g11 : w.heap.size ≤ b3 := Nat.le_trans (Below.size (Ext.refl w)) hb4
  have X12 := Ext.gr (Ext.refl w) E6
  show wpList _ _ _ _ (fr [(.slice p_a L_a.length q_a), Ud, (.slice none 0 0), Ud, Ud, (.slice p_a L_a.length q_a), (Iv (L_a.length : Int)), (.slice (some ⟨b3, 0, none⟩) L_a.length L_a.length), Ud, Ud, Ud, Ud, Ud, Ud, Ud, Ud, Ud, Ud, Ud, Ud, Ud, Ud]) _
  refine q_is (l' := [(.slice p_a L_a.length q_a), Ud, (.slice none 0 0), (.slice (some ⟨b3, 0, none⟩) L_a.length L_a.length), Ud, (.slice p_a L_a.length q_a), (Iv (L_a.length : Int)), (.slice (some ⟨b3, 0, none⟩) L_a.length L_a.length), Ud, Ud, Ud, Ud, Ud, Ud, Ud, Ud, Ud, Ud, Ud, Ud, Ud, Ud]) rfl rfl (does_assign (u := (.slice (some ⟨b3, 0, none⟩) L_a.length L_a.length)) (ev rfl)) rfl ?_
  refine wpList_nil (hK2 _ _ ?_)
  refine wp_seq_k fun K13 hK13 => ?_
  refine wp_seq_k fun K14 hK14 => ?_
  refine wp_region_lit ?_
  refine q_is (l' := [(.slice p_a L_a.length q_a), Ud, (.slice none 0 0), (.slice (some ⟨b3, 0, none⟩) L_a.length L_a.length), (Iv 0), (.slice p_a L_a.length q_a), (Iv (L_a.length : Int)), (.slice (some ⟨b3, 0, none⟩) L_a.length L_a.length), Ud, Ud, Ud, Ud, Ud, Ud, Ud, Ud, Ud, Ud, Ud, Ud, Ud, Ud]) rfl rfl (does_assign (u := (Iv 0)) (ev rfl)) rfl ?_
  refine wpList_nil (hK14 _ _ ?_)
  refine wp_block ?_
  have hF0 : Fill RF 1 w7 b3 L_a.length L_a 0 := Fill.zero hB5 hl9
  refine loop_ghost (σ := Nat) (fun k a w' => ∃ u15 : Nat → Value, a = fr [(.slice p_a L_a.length q_a), Ud, (.slice none 0 0), (.slice (some ⟨b3, 0, none⟩) L_a.length L_a.length), (Iv (k : Int)), (.slice p_a L_a.length q_a), (Iv (L_a.length : Int)), (.slice (some ⟨b3, 0, none⟩) L_a.length L_a.length), (u15 8), (u15 9), (u15 10), (u15 11), (u15 12), (u15 13), (u15 14), (u15 15), (u15 16), (u15 17), (u15 18), (u15 19), (u15 20), Ud] ∧ KpL [b3] w7 w' ∧ Fill RF 1 w' b3 L_a.length L_a k ∧ (k ≤ L_a.length)) (fun k => L_a.length - k) 0 ?_ ?_
  · refine ⟨fun t => (([(.slice p_a L_a.length q_a), Ud, (.slice none 0 0), (.slice (some ⟨b3, 0, none⟩) L_a.length L_a.length), (Iv 0), (.slice p_a L_a.length q_a), (Iv (L_a.length : Int)), (.slice (some ⟨b3, 0, none⟩) L_a.length L_a.length), Ud, Ud, Ud, Ud, Ud, Ud, Ud, Ud, Ud, Ud, Ud, Ud, Ud, Ud] : List Value)[t]?).getD undef, rfl, KpL.refl _ _, hF0, ?_⟩
    exact Nat.zero_le _
  · rintro k a w16 ⟨u15, rfl, E17, hF18, hk⟩
    have X19 := Below.kl X12 E17 (allS g11 all0) (Nat.le_refl _)
    refine wp_seq_k fun K20 hK20 => ?_
    refine wp_seq_k fun K21 hK21 => ?_
    refine wp_region_lit ?_
    refine q_is (l' := [(.slice p_a L_a.length q_a), Ud, (.slice none 0 0), (.slice (some ⟨b3, 0, none⟩) L_a.length L_a.length), (Iv (k : Int)), (.slice p_a L_a.length q_a), (Iv (L_a.length : Int)), (.slice (some ⟨b3, 0, none⟩) L_a.length L_a.length), (Iv (k : Int)), (u15 9), (u15 10), (u15 11), (u15 12), (u15 13), (u15 14), (u15 15), (u15 16), (u15 17), (u15 18), (u15 19), (u15 20), Ud]) rfl rfl (does_move (u := (Iv (k : Int))) (ev rfl)) rfl ?_
    refine q_is (l' := [(.slice p_a L_a.length q_a), Ud, (.slice none 0 0), (.slice (some ⟨b3, 0, none⟩) L_a.length L_a.length), (Iv (k : Int)), (.slice p_a L_a.length q_a), (Iv (L_a.length : Int)), (.slice (some ⟨b3, 0, none⟩) L_a.length L_a.length), (Iv (k : Int)), (.slice p_a L_a.length q_a), (u15 10), (u15 11), (u15 12), (u15 13), (u15 14), (u15 15), (u15 16), (u15 17), (u15 18), (u15 19), (u15 20), Ud]) rfl rfl (does_move (u := (.slice p_a L_a.length q_a)) (ev rfl)) rfl ?_
    refine q_is (l' := [(.slice p_a L_a.length q_a), Ud, (.slice none 0 0), (.slice (some ⟨b3, 0, none⟩) L_a.length L_a.length), (Iv (k : Int)), (.slice p_a L_a.length q_a), (Iv (L_a.length : Int)), (.slice (some ⟨b3, 0, none⟩) L_a.length L_a.length), (Iv (k : Int)), (.slice p_a L_a.length q_a), (Iv (L_a.length : Int)), (u15 11), (u15 12), (u15 13), (u15 14), (u15 15), (u15 16), (u15 17), (u15 18), (u15 19), (u15 20), Ud]) rfl rfl (does_len_slice Try.underlying25 (ev rfl)) rfl ?_
    refine q_is (l' := [(.slice p_a L_a.length q_a), Ud, (.slice none 0 0), (.slice (some ⟨b3, 0, none⟩) L_a.length L_a.length), (Iv (k : Int)), (.slice p_a L_a.length q_a), (Iv (L_a.length : Int)), (.slice (some ⟨b3, 0, none⟩) L_a.length L_a.length), (Iv (k : Int)), (.slice p_a L_a.length q_a), (Iv (L_a.length : Int)), (Bo (icmp .lss (k : Int) (L_a.length : Int))), (u15 12), (u15 13), (u15 14), (u15 15), (u15 16), (u15 17), (u15 18), (u15 19), (u15 20), Ud]) rfl rfl (does_icmp (p := (k : Int)) (q := (L_a.length : Int)) (.inr (.inr (.inl rfl))) (ev rfl) (ev rfl)) rfl ?_
    refine wpList_nil (hK21 _ _ ?_)
    refine wp_cond_split (t := icmp .lss (k : Int) (L_a.length : Int)) (ev rfl) (fun c22 => ?_) (fun c22 => ?_)
    · have c22' := c22
      (try simp only [icmp, Bool.and_eq_true, Bool.or_eq_true, Bool.and_eq_false_iff, Bool.or_eq_false_iff, Bool.not_eq_true', Bool.not_eq_false', decide_eq_true_eq, decide_eq_false_iff_not, beq_iff_eq, bne_iff_ne, beq_eq_false_iff_ne, bne_eq_false_iff_eq] at c22')
      refine wp_skip (hK20 _ _ ?_)
      refine wp_seq_k fun K23 hK23 => ?_
      refine wp_block ?_
      refine wp_region_lit ?_
      refine q_is (l' := [(.slice p_a L_a.length q_a), Ud, (.slice none 0 0), (.slice (some ⟨b3, 0, none⟩) L_a.length L_a.length), (Iv (k : Int)), (.slice p_a L_a.length q_a), (Iv (L_a.length : Int)), (.slice (some ⟨b3, 0, none⟩) L_a.length L_a.length), (Iv (k : Int)), (.slice p_a L_a.length q_a), (Iv (L_a.length : Int)), (Bo (icmp .lss (k : Int) (L_a.length : Int))), (u15 12), (u15 13), (.slice (some ⟨b3, 0, none⟩) L_a.length L_a.length), (u15 15), (u15 16), (u15 17), (u15 18), (u15 19), (u15 20), Ud]) rfl rfl (does_move (u := (.slice (some ⟨b3, 0, none⟩) L_a.length L_a.length)) (ev rfl)) rfl ?_
      refine q_is (l' := [(.slice p_a L_a.length q_a), Ud, (.slice none 0 0), (.slice (some ⟨b3, 0, none⟩) L_a.length L_a.length), (Iv (k : Int)), (.slice p_a L_a.length q_a), (Iv (L_a.length : Int)), (.slice (some ⟨b3, 0, none⟩) L_a.length L_a.length), (Iv (k : Int)), (.slice p_a L_a.length q_a), (Iv (L_a.length : Int)), (Bo (icmp .lss (k : Int) (L_a.length : Int))), (u15 12), (u15 13), (.slice (some ⟨b3, 0, none⟩) L_a.length L_a.length), (Iv (k : Int)), (u15 16), (u15 17), (u15 18), (u15 19), (u15 20), Ud]) rfl rfl (does_move (u := (Iv (k : Int))) (ev rfl)) rfl ?_
      refine q_is (l' := [(.slice p_a L_a.length q_a), Ud, (.slice none 0 0), (.slice (some ⟨b3, 0, none⟩) L_a.length L_a.length), (Iv (k : Int)), (.slice p_a L_a.length q_a), (Iv (L_a.length : Int)), (.slice (some ⟨b3, 0, none⟩) L_a.length L_a.length), (Iv (k : Int)), (.slice p_a L_a.length q_a), (Iv (L_a.length : Int)), (Bo (icmp .lss (k : Int) (L_a.length : Int))), (u15 12), (u15 13), (.slice (some ⟨b3, 0, none⟩) L_a.length L_a.length), (Iv (k : Int)), (.slice p_a L_a.length q_a), (u15 17), (u15 18), (u15 19), (u15 20), Ud]) rfl rfl (does_move (u := (.slice p_a L_a.length q_a)) (ev rfl)) rfl ?_
      refine q_is (l' := [(.slice p_a L_a.length q_a), Ud, (.slice none 0 0), (.slice (some ⟨b3, 0, none⟩) L_a.length L_a.length), (Iv (k : Int)), (.slice p_a L_a.length q_a), (Iv (L_a.length : Int)), (.slice (some ⟨b3, 0, none⟩) L_a.length L_a.length), (Iv (k : Int)), (.slice p_a L_a.length q_a), (Iv (L_a.length : Int)), (Bo (icmp .lss (k : Int) (L_a.length : Int))), (u15 12), (u15 13), (.slice (some ⟨b3, 0, none⟩) L_a.length L_a.length), (Iv (k : Int)), (.slice p_a L_a.length q_a), (Iv (k : Int)), (u15 18), (u15 19), (u15 20), Ud]) rfl rfl (does_move (u := (Iv (k : Int))) (ev rfl)) rfl ?_
      obtain ⟨el1, hel1⟩ : ∃ e, L_a[k]? = some e := ⟨_, List.getElem?_eq_getElem (by omega)⟩
      refine seqd rfl rfl (does_indexSl (R := RF) (i := (k : Int)) (xs := L_a) (e := el1) Try.underlying25 Try.sizeOf22 (ev rfl) (ev rfl) (Sl.ext hv_a RF.mono X19) (by omega) hel1) ?_; rintro _ w16 ⟨b24, o25, _, rfl, hc27, ⟨r28, rfl, h29⟩, rfl⟩
      show wpList _ _ _ _ (fr [(.slice p_a L_a.length q_a), Ud, (.slice none 0 0), (.slice (some ⟨b3, 0, none⟩) L_a.length L_a.length), (Iv (k : Int)), (.slice p_a L_a.length q_a), (Iv (L_a.length : Int)), (.slice (some ⟨b3, 0, none⟩) L_a.length L_a.length), (Iv (k : Int)), (.slice p_a L_a.length q_a), (Iv (L_a.length : Int)), (Bo (icmp .lss (k : Int) (L_a.length : Int))), (u15 12), (u15 13), (.slice (some ⟨b3, 0, none⟩) L_a.length L_a.length), (Iv (k : Int)), (.slice p_a L_a.length q_a), (Iv (k : Int)), (Pt b24 o25), (u15 19), (u15 20), Ud]) _
      refine q_is (l' := [(.slice p_a L_a.length q_a), Ud, (.slice none 0 0), (.slice (some ⟨b3, 0, none⟩) L_a.length L_a.length), (Iv (k : Int)), (.slice p_a L_a.length q_a), (Iv (L_a.length : Int)), (.slice (some ⟨b3, 0, none⟩) L_a.length L_a.length), (Iv (k : Int)), (.slice p_a L_a.length q_a), (Iv (L_a.length : Int)), (Bo (icmp .lss (k : Int) (L_a.length : Int))), (u15 12), (u15 13), (.slice (some ⟨b3, 0, none⟩) L_a.length L_a.length), (Iv (k : Int)), (.slice p_a L_a.length q_a), (Iv (k : Int)), (Pt b24 o25), (Fl r28), (u15 20), Ud]) rfl rfl (does_load (u := (Fl r28)) (ev rfl) Try.isAgg22 (Cells.at hc27 0 rfl)) rfl ?_
      refine q_is (l' := [(.slice p_a L_a.length q_a), Ud, (.slice none 0 0), (.slice (some ⟨b3, 0, none⟩) L_a.length L_a.length), (Iv (k : Int)), (.slice p_a L_a.length q_a), (Iv (L_a.length : Int)), (.slice (some ⟨b3, 0, none⟩) L_a.length L_a.length), (Iv (k : Int)), (.slice p_a L_a.length q_a), (Iv (L_a.length : Int)), (Bo (icmp .lss (k : Int) (L_a.length : Int))), (u15 12), (u15 13), (.slice (some ⟨b3, 0, none⟩) L_a.length L_a.length), (Iv (k : Int)), (.slice p_a L_a.length q_a), (Iv (k : Int)), (Pt b24 o25), (Fl r28), (Pt b3 (k * 1)), Ud]) rfl rfl (does_indexOwn (b := b3) (n := L_a.length) (i := (k : Int)) Try.underlying25 Try.sizeOf22 (ev rfl) (ev rfl) (by omega) (by omega)) rfl ?_
      refine seqn rfl rfl (does_fill (R := RF) (k := 1) (n := L_a.length) (j := k) (xs := L_a) (u := (Fl r28)) (e := el1) (ev rfl) (ev rfl) Try.sizeOf22 rfl rfl hF18 (by omega) hel1 (fun _ => ⟨_, rfl, h29⟩) (fun _ _ _ _ h => h)) ?_; rintro _ w32 ⟨rfl, W30, hF31⟩
      have X33 := Below.wr X19 W30 g11
      refine wpList_nil (hK23 _ _ ?_)
      refine wp_region_lit ?_
      refine q_is (l' := [(.slice p_a L_a.length q_a), Ud, (.slice none 0 0), (.slice (some ⟨b3, 0, none⟩) L_a.length L_a.length), (Iv (k : Int)), (.slice p_a L_a.length q_a), (Iv (L_a.length : Int)), (.slice (some ⟨b3, 0, none⟩) L_a.length L_a.length), (Iv (k : Int)), (.slice p_a L_a.length q_a), (Iv (L_a.length : Int)), (Bo (icmp .lss (k : Int) (L_a.length : Int))), (Iv (k : Int)), (u15 13), (.slice (some ⟨b3, 0, none⟩) L_a.length L_a.length), (Iv (k : Int)), (.slice p_a L_a.length q_a), (Iv (k : Int)), (Pt b24 o25), (Fl r28), (Pt b3 (k * 1)), Ud]) rfl rfl (does_move (u := (Iv (k : Int))) (ev rfl)) rfl ?_
      refine q_is (l' := [(.slice p_a L_a.length q_a), Ud, (.slice none 0 0), (.slice (some ⟨b3, 0, none⟩) L_a.length L_a.length), (Iv (k : Int)), (.slice p_a L_a.length q_a), (Iv (L_a.length : Int)), (.slice (some ⟨b3, 0, none⟩) L_a.length L_a.length), (Iv (k : Int)), (.slice p_a L_a.length q_a), (Iv (L_a.length : Int)), (Bo (icmp .lss (k : Int) (L_a.length : Int))), (Iv (k : Int)), (Iv ((k : Int) + 1)), (.slice (some ⟨b3, 0, none⟩) L_a.length L_a.length), (Iv (k : Int)), (.slice p_a L_a.length q_a), (Iv (k : Int)), (Pt b24 o25), (Fl r28), (Pt b3 (k * 1)), Ud]) rfl rfl (does_iarith (p := (k : Int)) (q := 1) (r := (k : Int) + 1) (ev rfl) (ev rfl) (.inl ⟨rfl, (in_i64 (by omega) (by omega)).symm⟩)) rfl ?_
      refine q_is (l' := [(.slice p_a L_a.length q_a), Ud, (.slice none 0 0), (.slice (some ⟨b3, 0, none⟩) L_a.length L_a.length), (Iv ((k : Int) + 1)), (.slice p_a L_a.length q_a), (Iv (L_a.length : Int)), (.slice (some ⟨b3, 0, none⟩) L_a.length L_a.length), (Iv (k : Int)), (.slice p_a L_a.length q_a), (Iv (L_a.length : Int)), (Bo (icmp .lss (k : Int) (L_a.length : Int))), (Iv (k : Int)), (Iv ((k : Int) + 1)), (.slice (some ⟨b3, 0, none⟩) L_a.length L_a.length), (Iv (k : Int)), (.slice p_a L_a.length q_a), (Iv (k : Int)), (Pt b24 o25), (Fl r28), (Pt b3 (k * 1)), Ud]) rfl rfl (does_assign (u := (Iv ((k : Int) + 1))) (ev rfl)) rfl ?_
      refine wpList_nil ?_
      refine ⟨k + 1, ⟨fun t => (([(.slice p_a L_a.length q_a), Ud, (.slice none 0 0), (.slice (some ⟨b3, 0, none⟩) L_a.length L_a.length), (Iv ((k : Int) + 1)), (.slice p_a L_a.length q_a), (Iv (L_a.length : Int)), (.slice (some ⟨b3, 0, none⟩) L_a.length L_a.length), (Iv (k : Int)), (.slice p_a L_a.length q_a), (Iv (L_a.length : Int)), (Bo (icmp .lss (k : Int) (L_a.length : Int))), (Iv (k : Int)), (Iv ((k : Int) + 1)), (.slice (some ⟨b3, 0, none⟩) L_a.length L_a.length), (Iv (k : Int)), (.slice p_a L_a.length q_a), (Iv (k : Int)), (Pt b24 o25), (Fl r28), (Pt b3 (k * 1)), Ud] : List Value)[t]?).getD undef, ?_, (KpL.more E17 (KpL.of_wr W30) (allS (.inl (by simp)) all0)), hF31, ?_⟩, ?_⟩
      · first | rfl | (simp only [Nat.cast_add, Nat.cast_one, Int.natCast_add, Int.natCast_one]; rfl)
      · omega
      · omega
    have c22' := c22
    (try simp only [icmp, Bool.and_eq_true, Bool.or_eq_true, Bool.and_eq_false_iff, Bool.or_eq_false_iff, Bool.not_eq_true', Bool.not_eq_false', decide_eq_true_eq, decide_eq_false_iff_not, beq_iff_eq, bne_iff_ne, beq_eq_false_iff_ne, bne_eq_false_iff_eq] at c22')
    refine wp_exit ?_
    refine hK13 _ _ ?_
    refine wp_seq_k fun K34 hK34 => ?_
    refine wp_region_lit ?_
    refine q_is (l' := [(.slice p_a L_a.length q_a), Ud, (.slice none 0 0), (.slice (some ⟨b3, 0, none⟩) L_a.length L_a.length), (Iv (k : Int)), (.slice p_a L_a.length q_a), (Iv (L_a.length : Int)), (.slice (some ⟨b3, 0, none⟩) L_a.length L_a.length), (Iv (k : Int)), (.slice p_a L_a.length q_a), (Iv (L_a.length : Int)), (Bo (icmp .lss (k : Int) (L_a.length : Int))), (u15 12), (u15 13), (u15 14), (u15 15), (u15 16), (u15 17), (u15 18), (u15 19), (u15 20), (.slice (some ⟨b3, 0, none⟩) L_a.length L_a.length)]) rfl rfl (does_move (u := (.slice (some ⟨b3, 0, none⟩) L_a.length L_a.length)) (ev rfl)) rfl ?_
    refine q_is (l' := [(.slice p_a L_a.length q_a), Ud, (.slice (some ⟨b3, 0, none⟩) L_a.length L_a.length), (.slice (some ⟨b3, 0, none⟩) L_a.length L_a.length), (Iv (k : Int)), (.slice p_a L_a.length q_a), (Iv (L_a.length : Int)), (.slice (some ⟨b3, 0, none⟩) L_a.length L_a.length), (Iv (k : Int)), (.slice p_a L_a.length q_a), (Iv (L_a.length : Int)), (Bo (icmp .lss (k : Int) (L_a.length : Int))), (u15 12), (u15 13), (u15 14), (u15 15), (u15 16), (u15 17), (u15 18), (u15 19), (u15 20), (.slice (some ⟨b3, 0, none⟩) L_a.length L_a.length)]) rfl rfl (does_assign (u := (.slice (some ⟨b3, 0, none⟩) L_a.length L_a.length)) (ev rfl)) rfl ?_
    refine wpList_nil (hK34 _ _ ?_)
    refine wp_ret ?_
    refine ret_val (v := (.slice (some ⟨b3, 0, none⟩) L_a.length L_a.length)) (res_T rfl (slot rfl)) X19 ?_
    exact ⟨(.slice (some ⟨b3, 0, none⟩) L_a.length L_a.length), [b3], rfl, (Fill.hang hF18 RF.flat g11 (by omega) rfl (by omega) (by decide)), (Fill.wl hF18 g11)⟩

/- laws.toGrid -/
theorem c_laws_toGrid (a : List Value) (A_a : GridT) (w : World) (hv_a : RGridT w A_a a) (hsz : A_a.vals.length ≤ 1048576) : Gives Try.prog 9 #[(.agg a.toArray)] w (fun v w' => ∃ cs_1 : List Value, ∃ Lw_2 : List Nat, v = (.agg cs_1.toArray) ∧ Hang w.heap.size w' (fun u => RGridT u A_a cs_1) ∧ WL 1 w.heap.size w' Lw_2 (cellN cs_1 7) A_a.vals.length) := by
  obtain ⟨r1, r3, r5, r7, y9, rfl, h2, h4, h6, h8, h10⟩ := hv_a
  have hs13 := h10; have hs13l := Sl.len h10; obtain ⟨p11, q12, rfl⟩ := Sl.shape h10
  refine enter [(.agg #[(Fl r1), (Fl r3), (Fl r5), (Fl r7), (Iv A_a.x), (Iv A_a.y), (Iv A_a.z), (.slice p11 A_a.vals.length q12)]), Ud, Ud, Ud, Ud, Ud, Ud, Ud, Ud, Ud, Ud, Ud, Ud, Ud, Ud, Ud, Ud, Ud, Ud, Ud, Ud, Ud, Ud, Ud, Ud] Try.func9 rfl Try.ntmps9 rfl ?_
  refine wp_seq_k fun K14 hK14 => ?_
  refine wp_region_lit ?_
  refine seqd rfl rfl (does_box (u := (.agg #[(Fl r1), (Fl r3), (Fl r5), (Fl r7), (Iv A_a.x), (Iv A_a.y), (Iv A_a.z), (.slice p11 A_a.vals.length q12)])) (ev rfl)) ?_; rintro _ w19 ⟨b15, rfl, hb16, hB17, E18⟩
  have g20 : w.heap.size ≤ b15 := Nat.le_trans (Below.size (Ext.refl w)) hb16
  change Blk _ _ [(Fl r1), (Fl r3), (Fl r5), (Fl r7), (Iv A_a.x), (Iv A_a.y), (Iv A_a.z), (.slice p11 A_a.vals.length q12)] at hB17
  have X21 := Ext.gr (Ext.refl w) E18
  show wpList _ _ _ _ (fr [(.agg #[(Fl r1), (Fl r3), (Fl r5), (Fl r7), (Iv A_a.x), (Iv A_a.y), (Iv A_a.z), (.slice p11 A_a.vals.length q12)]), (Pt b15 0), Ud, Ud, Ud, Ud, Ud, Ud, Ud, Ud, Ud, Ud, Ud, Ud, Ud, Ud, Ud, Ud, Ud, Ud, Ud, Ud, Ud, Ud, Ud]) _
  refine seqd rfl rfl (does_alloc z31) ?_; rintro _ w26 ⟨b22, rfl, hb23, hB24, E25⟩
  have n27 : b15 < b22 := Nat.lt_of_lt_of_le (Blk.lt hB17) hb23
  have g28 : w.heap.size ≤ b22 := Nat.le_trans (Below.size X21) hb23
  change Blk _ _ [(Fl 0), (Fl 0), (Fl 0), (Fl 0), (Iv 0), (Iv 0), (Iv 0), (.slice none 0 0)] at hB24
  have X29 := Ext.gr X21 E25
  show wpList _ _ _ _ (fr [(.agg #[(Fl r1), (Fl r3), (Fl r5), (Fl r7), (Iv A_a.x), (Iv A_a.y), (Iv A_a.z), (.slice p11 A_a.vals.length q12)]), (Pt b15 0), (Pt b22 0), Ud, Ud, Ud, Ud, Ud, Ud, Ud, Ud, Ud, Ud, Ud, Ud, Ud, Ud, Ud, Ud, Ud, Ud, Ud, Ud, Ud, Ud]) _
  refine wpList_nil (hK14 _ _ ?_)
  refine wp_seq_k fun K30 hK30 => ?_
  refine wp_region_lit ?_
  refine seqd rfl rfl (does_alloc z31) ?_; rintro _ w35 ⟨b31, rfl, hb32, hB33, E34⟩
  have n36 : b15 < b31 := Nat.lt_of_lt_of_le (Blk.lt (hB17.ext E25)) hb32
  have n37 : b22 < b31 := Nat.lt_of_lt_of_le (Blk.lt hB24) hb32
  have g38 : w.heap.size ≤ b31 := Nat.le_trans (Below.size X29) hb32
  change Blk _ _ [(Fl 0), (Fl 0), (Fl 0), (Fl 0), (Iv 0), (Iv 0), (Iv 0), (.slice none 0 0)] at hB33
  have X39 := Ext.gr X29 E34
  show wpList _ _ _ _ (fr [(.agg #[(Fl r1), (Fl r3), (Fl r5), (Fl r7), (Iv A_a.x), (Iv A_a.y), (Iv A_a.z), (.slice p11 A_a.vals.length q12)]), (Pt b15 0), (Pt b22 0), (Pt b31 0), Ud, Ud, Ud, Ud, Ud, Ud, Ud, Ud, Ud, Ud, Ud, Ud, Ud, Ud, Ud, Ud, Ud, Ud, Ud, Ud, Ud]) _
  refine wpList_nil (hK30 _ _ ?_)
  refine wp_seq_k fun K40 hK40 => ?_
  refine wp_region_lit ?_
  refine q_is rfl rfl (does_fieldAddr (ev rfl) fa27_0) (by dsimp only [List.set]; try rfl) ?_
  refine q_is rfl rfl (does_loadAgg (cs := [(Fl r1), (Fl r3), (Fl r5)]) (ev rfl) Try.isAgg24 Try.sizeOf24 (Cells.sub (Blk.cells ((hB17.ext E25).ext E34)) 0 3) rfl) (by dsimp only [List.set]; try rfl) ?_
  refine seqd rfl rfl (does_call (args := #[(.agg #[(Fl r1), (Fl r3), (Fl r5)])]) cal26 (evs rfl) (c_laws_toVector [(Fl r1), (Fl r3), (Fl r5)] A_a.low _ ⟨r1, r3, r5, rfl, h2, h4, h6⟩)) ?_; rintro _ w42 ⟨E41, ⟨_, rfl, ⟨r43, r45, r47, rfl, h44, h46, h48⟩⟩⟩
  have X49 := Ext.gr X39 E41
  show wpList _ _ _ _ (fr [(.agg #[(Fl r1), (Fl r3), (Fl r5), (Fl r7), (Iv A_a.x), (Iv A_a.y), (Iv A_a.z), (.slice p11 A_a.vals.length q12)]), (Pt b15 0), (Pt b22 0), (Pt b31 0), (Pt b15 0), (.agg #[(Fl r1), (Fl r3), (Fl r5)]), (.agg #[(Fl r43), (Fl r45), (Fl r47)]), Ud, Ud, Ud, Ud, Ud, Ud, Ud, Ud, Ud, Ud, Ud, Ud, Ud, Ud, Ud, Ud, Ud, Ud]) _
  refine q_is rfl rfl (does_fieldAddr (ev rfl) fa31_0) (by dsimp only [List.set]; try rfl) ?_
  refine seqn rfl rfl (does_store (n := 3) (cs := [(Fl 0), (Fl 0), (Fl 0), (Fl 0), (Iv 0), (Iv 0), (Iv 0), (.slice none 0 0)]) (u := (.agg #[(Fl r43), (Fl r45), (Fl r47)])) (ev rfl) (ev rfl) Try.sizeOf29 rfl (hB33.ext E41) (Nat.le_of_ble_eq_true rfl) rfl) ?_; rintro _ w52 ⟨rfl, W50, hB51⟩
  change Blk _ _ [(Fl r43), (Fl r45), (Fl r47), (Fl 0), (Iv 0), (Iv 0), (Iv 0), (.slice none 0 0)] at hB51
  have X53 := Below.wr X49 W50 g38
  refine wpList_nil (hK40 _ _ ?_)
  refine wp_seq_k fun K54 hK54 => ?_
  refine wp_region_lit ?_
  refine q_is rfl rfl (does_fieldAddr (ev rfl) fa27_1) (by dsimp only [List.set]; try rfl) ?_
  refine q_is rfl rfl (does_load (u := (Fl r7)) (ev rfl) Try.isAgg22 (Cells.at (Blk.cells ((((hB17.ext E25).ext E34).ext E41).wr W50 (Nat.ne_of_lt n36))) 3 rfl)) (by dsimp only [List.set]; try rfl) ?_
  refine q_is rfl rfl (does_fieldAddr (ev rfl) fa31_1) (by dsimp only [List.set]; try rfl) ?_
  refine seqn rfl rfl (does_store (n := 1) (cs := [(Fl r43), (Fl r45), (Fl r47), (Fl 0), (Iv 0), (Iv 0), (Iv 0), (.slice none 0 0)]) (u := (Fl r7)) (ev rfl) (ev rfl) Try.sizeOf22 rfl hB51 (Nat.le_of_ble_eq_true rfl) rfl) ?_; rintro _ w57 ⟨rfl, W55, hB56⟩
  change Blk _ _ [(Fl r43), (Fl r45), (Fl r47), (Fl r7), (Iv 0), (Iv 0), (Iv 0), (.slice none 0 0)] at hB56
  have X58 := Below.wr X53 W55 g38
  refine wpList_nil (hK54 _ _ ?_)
  refine wp_seq_k fun K59 hK59 => ?_
  refine wp_region_lit ?_
  refine q_is rfl rfl (does_fieldAddr (ev rfl) fa27_2) (by dsimp only [List.set]; try rfl) ?_
  refine q_is rfl rfl (does_load (u := (Iv A_a.x)) (ev rfl) Try.isAgg2 (Cells.at (Blk.cells (((((hB17.ext E25).ext E34).ext E41).wr W50 (Nat.ne_of_lt n36)).wr W55 (Nat.ne_of_lt n36))) 4 rfl)) (by dsimp only [List.set]; try rfl) ?_
  refine q_is rfl rfl (does_fieldAddr (ev rfl) fa31_2) (by dsimp only [List.set]; try rfl) ?_
  refine seqn rfl rfl (does_store (n := 1) (cs := [(Fl r43), (Fl r45), (Fl r47), (Fl r7), (Iv 0), (Iv 0), (Iv 0), (.slice none 0 0)]) (u := (Iv A_a.x)) (ev rfl) (ev rfl) Try.sizeOf2 rfl hB56 (Nat.le_of_ble_eq_true rfl) rfl) ?_; rintro _ w62 ⟨rfl, W60, hB61⟩
  change Blk _ _ [(Fl r43), (Fl r45), (Fl r47), (Fl r7), (Iv A_a.x), (Iv 0), (Iv 0), (.slice none 0 0)] at hB61
  have X63 := Below.wr X58 W60 g38
  refine wpList_nil (hK59 _ _ ?_)
  refine wp_seq_k fun K64 hK64 => ?_
  refine wp_region_lit ?_
  refine q_is rfl rfl (does_fieldAddr (ev rfl) fa27_3) (by dsimp only [List.set]; try rfl) ?_
  refine q_is rfl rfl (does_load (u := (Iv A_a.y)) (ev rfl) Try.isAgg2 (Cells.at (Blk.cells ((((((hB17.ext E25).ext E34).ext E41).wr W50 (Nat.ne_of_lt n36)).wr W55 (Nat.ne_of_lt n36)).wr W60 (Nat.ne_of_lt n36))) 5 rfl)) (by dsimp only [List.set]; try rfl) ?_
  refine q_is rfl rfl (does_fieldAddr (ev rfl) fa31_3) (by dsimp only [List.set]; try rfl) ?_
  refine seqn rfl rfl (does_store (n := 1) (cs := [(Fl r43), (Fl r45), (Fl r47), (Fl r7), (Iv A_a.x), (Iv 0), (Iv 0), (.slice none 0 0)]) (u := (Iv A_a.y)) (ev rfl) (ev rfl) Try.sizeOf2 rfl hB61 (Nat.le_of_ble_eq_true rfl) rfl) ?_; rintro _ w67 ⟨rfl, W65, hB66⟩
  change Blk _ _ [(Fl r43), (Fl r45), (Fl r47), (Fl r7), (Iv A_a.x), (Iv A_a.y), (Iv 0), (.slice none 0 0)] at hB66
  have X68 := Below.wr X63 W65 g38
  refine wpList_nil (hK64 _ _ ?_)
  refine wp_seq_k fun K69 hK69 => ?_
  refine wp_region_lit ?_
  refine q_is rfl rfl (does_fieldAddr (ev rfl) fa27_4) (by dsimp only [List.set]; try rfl) ?_
  refine q_is rfl rfl (does_load (u := (Iv A_a.z)) (ev rfl) Try.isAgg2 (Cells.at (Blk.cells (((((((hB17.ext E25).ext E34).ext E41).wr W50 (Nat.ne_of_lt n36)).wr W55 (Nat.ne_of_lt n36)).wr W60 (Nat.ne_of_lt n36)).wr W65 (Nat.ne_of_lt n36))) 6 rfl)) (by dsimp only [List.set]; try rfl) ?_
  refine q_is rfl rfl (does_fieldAddr (ev rfl) fa31_4) (by dsimp only [List.set]; try rfl) ?_
  refine seqn rfl rfl (does_store (n := 1) (cs := [(Fl r43), (Fl r45), (Fl r47), (Fl r7), (Iv A_a.x), (Iv A_a.y), (Iv 0), (.slice none 0 0)]) (u := (Iv A_a.z)) (ev rfl) (ev rfl) Try.sizeOf2 rfl hB66 (Nat.le_of_ble_eq_true rfl) rfl) ?_; rintro _ w72 ⟨rfl, W70, hB71⟩
  change Blk _ _ [(Fl r43), (Fl r45), (Fl r47), (Fl r7), (Iv A_a.x), (Iv A_a.y), (Iv A_a.z), (.slice none 0 0)] at hB71
  have X73 := Below.wr X68 W70 g38
  refine wpList_nil (hK69 _ _ ?_)
  refine wp_seq_k fun K74 hK74 => ?_
  refine wp_region_lit ?_
  refine q_is rfl rfl (does_fieldAddr (ev rfl) fa27_5) (by dsimp only [List.set]; try rfl) ?_
  refine q_is rfl rfl (does_load (u := (.slice p11 A_a.vals.length q12)) (ev rfl) Try.isAgg25 (Cells.at (Blk.cells ((((((((hB17.ext E25).ext E34).ext E41).wr W50 (Nat.ne_of_lt n36)).wr W55 (Nat.ne_of_lt n36)).wr W60 (Nat.ne_of_lt n36)).wr W65 (Nat.ne_of_lt n36)).wr W70 (Nat.ne_of_lt n36))) 7 rfl)) (by dsimp only [List.set]; try rfl) ?_
  refine seqd rfl rfl (does_call (args := #[(.slice p11 A_a.vals.length q12)]) cal27 (evs rfl) (c_laws_toFloat32S (.slice p11 A_a.vals.length q12) A_a.vals _ (Sl.ext hs13 RF.mono X73) (by omega))) ?_; rintro _ w76 ⟨E75, ⟨y78, Lw79, rfl, hh77, hw80⟩⟩
  have X81 := Ext.gr X73 E75
  have n82 : b15 < w72.heap.size := Blk.lt ((((((((hB17.ext E25).ext E34).ext E41).wr W50 (Nat.ne_of_lt n36)).wr W55 (Nat.ne_of_lt n36)).wr W60 (Nat.ne_of_lt n36)).wr W65 (Nat.ne_of_lt n36)).wr W70 (Nat.ne_of_lt n36))
  have n83 : b22 < w72.heap.size := Blk.lt (((((((hB24.ext E34).ext E41).wr W50 (Nat.ne_of_lt n37)).wr W55 (Nat.ne_of_lt n37)).wr W60 (Nat.ne_of_lt n37)).wr W65 (Nat.ne_of_lt n37)).wr W70 (Nat.ne_of_lt n37))
  have n84 : b31 < w72.heap.size := Blk.lt hB71
  obtain ⟨p85, q86, rfl⟩ := Sl.shape hh77.get
  have hw87 : WL 1 w72.heap.size w76 Lw79 (.slice p85 A_a.vals.length q86) A_a.vals.length := hw80
  show wpList _ _ _ _ (fr [(.agg #[(Fl r1), (Fl r3), (Fl r5), (Fl r7), (Iv A_a.x), (Iv A_a.y), (Iv A_a.z), (.slice p11 A_a.vals.length q12)]), (Pt b15 0), (Pt b22 0), (Pt b31 0), (Pt b15 0), (.agg #[(Fl r1), (Fl r3), (Fl r5)]), (.agg #[(Fl r43), (Fl r45), (Fl r47)]), (Pt b31 0), (Pt b15 3), (Fl r7), (Pt b31 3), (Pt b15 4), (Iv A_a.x), (Pt b31 4), (Pt b15 5), (Iv A_a.y), (Pt b31 5), (Pt b15 6), (Iv A_a.z), (Pt b31 6), (Pt b15 7), (.slice p11 A_a.vals.length q12), (.slice p85 A_a.vals.length q86), Ud, Ud]) _
  refine q_is rfl rfl (does_fieldAddr (ev rfl) fa31_5) (by dsimp only [List.set]; try rfl) ?_
  refine seqn rfl rfl (does_store (n := 1) (cs := [(Fl r43), (Fl r45), (Fl r47), (Fl r7), (Iv A_a.x), (Iv A_a.y), (Iv A_a.z), (.slice none 0 0)]) (u := (.slice p85 A_a.vals.length q86)) (ev rfl) (ev rfl) Try.sizeOf25 rfl (hB71.ext E75) (Nat.le_of_ble_eq_true rfl) rfl) ?_; rintro _ w90 ⟨rfl, W88, hB89⟩
  change Blk _ _ [(Fl r43), (Fl r45), (Fl r47), (Fl r7), (Iv A_a.x), (Iv A_a.y), (Iv A_a.z), (.slice p85 A_a.vals.length q86)] at hB89
  have X91 := Below.wr X81 W88 g38
  refine wpList_nil (hK74 _ _ ?_)
  refine wp_seq_k fun K92 hK92 => ?_
  refine wp_region_lit ?_
  refine q_is rfl rfl (does_loadAgg (cs := [(Fl r43), (Fl r45), (Fl r47), (Fl r7), (Iv A_a.x), (Iv A_a.y), (Iv A_a.z), (.slice p85 A_a.vals.length q86)]) (ev rfl) Try.isAgg31 Try.sizeOf31 (Blk.cells hB89) rfl) (by dsimp only [List.set]; try rfl) ?_
  refine seqn rfl rfl (does_store (n := 8) (cs := [(Fl 0), (Fl 0), (Fl 0), (Fl 0), (Iv 0), (Iv 0), (Iv 0), (.slice none 0 0)]) (u := (.agg #[(Fl r43), (Fl r45), (Fl r47), (Fl r7), (Iv A_a.x), (Iv A_a.y), (Iv A_a.z), (.slice p85 A_a.vals.length q86)])) (ev rfl) (ev rfl) Try.sizeOf31 rfl (((((((((hB24.ext E34).ext E41).wr W50 (Nat.ne_of_lt n37)).wr W55 (Nat.ne_of_lt n37)).wr W60 (Nat.ne_of_lt n37)).wr W65 (Nat.ne_of_lt n37)).wr W70 (Nat.ne_of_lt n37)).ext E75).wr W88 (Nat.ne_of_lt n37)) (Nat.le_of_ble_eq_true rfl) rfl) ?_; rintro _ w95 ⟨rfl, W93, hB94⟩
  change Blk _ _ [(Fl r43), (Fl r45), (Fl r47), (Fl r7), (Iv A_a.x), (Iv A_a.y), (Iv A_a.z), (.slice p85 A_a.vals.length q86)] at hB94
  have X96 := Below.wr X91 W93 g28
  refine wpList_nil (hK92 _ _ ?_)
  refine wp_ret ?_
  refine ret_val (v := (.agg #[(Fl r43), (Fl r45), (Fl r47), (Fl r7), (Iv A_a.x), (Iv A_a.y), (Iv A_a.z), (.slice p85 A_a.vals.length q86)])) (res_C rfl (slot rfl) (run_loadAgg (cs := [(Fl r43), (Fl r45), (Fl r47), (Fl r7), (Iv A_a.x), (Iv A_a.y), (Iv A_a.z), (.slice p85 A_a.vals.length q86)]) Try.isAgg31 Try.sizeOf31 (Blk.cells hB94) rfl)) X96 ?_
  exact ⟨[(Fl r43), (Fl r45), (Fl r47), (Fl r7), (Iv A_a.x), (Iv A_a.y), (Iv A_a.z), (.slice p85 A_a.vals.length q86)], Lw79, rfl, fun u hu => ⟨r43, r45, r47, r7, (.slice p85 A_a.vals.length q86), rfl, h44, h46, h48, h8, ((Hang.to hh77 (((Same.refl _ _).wr W88 (.inl n84)).wr W93 (.inl n83))).le (Below.size (Below.wr (Below.wr (Below.wr (Below.wr (Below.wr (Ext.gr (Ext.gr (Ext.gr (Ext.gr (Ext.refl _) E18) E25) E34) E41) W50 g38) W55 g38) W60 g38) W65 g38) W70 g38))) u hu⟩, ((hw87.same (((Same.refl _ _).wr W88 (.inl n84)).wr W93 (.inl n83))).le (Below.size (Below.wr (Below.wr (Below.wr (Below.wr (Below.wr (Ext.gr (Ext.gr (Ext.gr (Ext.gr (Ext.refl _) E18) E25) E34) E41) W50 g38) W55 g38) W60 g38) W65 g38) W70 g38)))⟩

/- (*impl.Grid).counts -/
theorem c_impl_Grid_counts (g_b : Nat) (g_o : Nat) (g : List Value) (A_g : GridT) (w : World) (hc_g : Cells w g_b g_o g) (hv_g : RGridT w A_g g) : Gives Try.prog 39 #[(Pt g_b g_o)] w (fun v w' => v = (.agg #[(Iv A_g.x), (Iv A_g.y), (Iv A_g.z)])) := by
  obtain ⟨r1, r3, r5, r7, y9, rfl, h2, h4, h6, h8, h10⟩ := hv_g
  have hs13 := h10; have hs13l := Sl.len h10; obtain ⟨p11, q12, rfl⟩ := Sl.shape h10
  refine enter [(Pt g_b g_o), Ud, Ud, Ud, Ud, Ud, Ud, Ud, Ud, Ud, Ud, Ud, Ud, Ud, Ud, Ud] Try.func39 rfl Try.ntmps39 rfl ?_
  refine wp_seq_k fun K14 hK14 => ?_
  refine wp_region_lit ?_
  refine seqd rfl rfl (does_alloc z55) ?_; rintro _ w19 ⟨b15, rfl, hb16, hB17, E18⟩
  have n20 : g_b < b15 := Nat.lt_of_lt_of_le (cell_lt (Cells.at hc_g 0 rfl)) hb16
  have g21 : w.heap.size ≤ b15 := Nat.le_trans (Below.size (Ext.refl w)) hb16
  change Blk _ _ [(Iv 0), (Iv 0), (Iv 0)] at hB17
  have X22 := Ext.gr (Ext.refl w) E18
  show wpList _ _ _ _ (fr [(Pt g_b g_o), Ud, (Pt b15 0), Ud, Ud, Ud, Ud, Ud, Ud, Ud, Ud, Ud, Ud, Ud, Ud, Ud]) _
  refine wpList_nil (hK14 _ _ ?_)
  refine wp_seq_k fun K23 hK23 => ?_
  refine region_draw (
    [Fact.pure [] (fun v => v = (Pt g_b g_o)),
    Fact.pure [3] (fun v => v = (Pt g_b g_o)),
    Fact.pure [4] (fun v => v = (Pt g_b (g_o + 4))),
    Fact.pure [5] (fun v => v = (Iv A_g.x)),
    Fact.pure [] (fun v => v = (Pt g_b g_o)),
    Fact.pure [7] (fun v => v = (Pt g_b g_o)),
    Fact.pure [8] (fun v => v = (Pt g_b (g_o + 5))),
    Fact.pure [9] (fun v => v = (Iv A_g.y)),
    Fact.pure [] (fun v => v = (Pt g_b g_o)),
    Fact.pure [11] (fun v => v = (Pt g_b g_o)),
    Fact.pure [12] (fun v => v = (Pt g_b (g_o + 6))),
    Fact.pure [13] (fun v => v = (Iv A_g.z)),
    Fact.pure [6, 10, 14] (fun v => v = (.agg #[(Iv A_g.x), (Iv A_g.y), (Iv A_g.z)]))]) mixed (by kernel_rfl) (by intro _ _ d _ _ h; cases d <;> exact h) ?_
  obtain ⟨w24, hw26⟩ : ∃ w', w' = World.drew w19 := ⟨_, rfl⟩; rw [← hw26]; have E25 : Ext w19 w24 := by rw [hw26]; exact Ext.draw _
  clear hw26
  have X27 := Ext.gr X22 E25
  refine RW_d (fun v28 => [(Pt g_b g_o), Ud, (Pt b15 0), v28, Ud, Ud, Ud, Ud, Ud, Ud, Ud, Ud, Ud, Ud, Ud, Ud]) rfl (fun _ => rfl) (fun u hu hF => ?_) (fun v28 => ?_)
  · clear hF
    refine doesG_un rfl ?_
    refine (does_move (u := (Pt g_b g_o)) (ev rfl)).mono ?_; rintro _ _ ⟨rfl, rfl⟩
    exact ⟨rfl, Ext.refl _⟩
  refine RW_d (fun v29 => [(Pt g_b g_o), Ud, (Pt b15 0), v28, v29, Ud, Ud, Ud, Ud, Ud, Ud, Ud, Ud, Ud, Ud, Ud]) rfl (fun _ => rfl) (fun u hu hF => ?_) (fun v29 => ?_)
  · have h3_ : v28 = (Pt g_b g_o) := hF.1
    clear hF
    refine doesG_un rfl ?_
    obtain rfl := h3_
    refine (does_nilCheck (ev rfl)).mono ?_; rintro _ _ ⟨rfl, rfl⟩
    exact ⟨rfl, Ext.refl _⟩
  refine RW_d (fun v30 => [(Pt g_b g_o), Ud, (Pt b15 0), v28, v29, v30, Ud, Ud, Ud, Ud, Ud, Ud, Ud, Ud, Ud, Ud]) rfl (fun _ => rfl) (fun u hu hF => ?_) (fun v30 => ?_)
  · have h4_ : v29 = (Pt g_b g_o) := hF.1
    clear hF
    refine doesG_un rfl ?_
    obtain rfl := h4_
    refine (does_fieldAddr (ev rfl) fa31_2).mono ?_; rintro _ _ ⟨rfl, rfl⟩
    exact ⟨rfl, Ext.refl _⟩
  refine RW_d (fun v31 => [(Pt g_b g_o), Ud, (Pt b15 0), v28, v29, v30, v31, Ud, Ud, Ud, Ud, Ud, Ud, Ud, Ud, Ud]) rfl (fun _ => rfl) (fun u hu hF => ?_) (fun v31 => ?_)
  · have h5_ : v30 = (Pt g_b (g_o + 4)) := hF.1
    clear hF
    refine doesG_un rfl ?_
    obtain rfl := h5_
    refine (does_load (u := (Iv A_g.x)) (ev rfl) Try.isAgg2 (Cells.at ((hc_g.ext (Ext.gr X22 E25)).ext hu) 4 rfl)).mono ?_; rintro _ _ ⟨rfl, rfl⟩
    exact ⟨rfl, Ext.refl _⟩
  refine RW_d (fun v32 => [(Pt g_b g_o), Ud, (Pt b15 0), v28, v29, v30, v31, v32, Ud, Ud, Ud, Ud, Ud, Ud, Ud, Ud]) rfl (fun _ => rfl) (fun u hu hF => ?_) (fun v32 => ?_)
  · clear hF
    refine doesG_un rfl ?_
    refine (does_move (u := (Pt g_b g_o)) (ev rfl)).mono ?_; rintro _ _ ⟨rfl, rfl⟩
    exact ⟨rfl, Ext.refl _⟩
  refine RW_d (fun v33 => [(Pt g_b g_o), Ud, (Pt b15 0), v28, v29, v30, v31, v32, v33, Ud, Ud, Ud, Ud, Ud, Ud, Ud]) rfl (fun _ => rfl) (fun u hu hF => ?_) (fun v33 => ?_)
  · have h7_ : v32 = (Pt g_b g_o) := hF.1
    clear hF
    refine doesG_un rfl ?_
    obtain rfl := h7_
    refine (does_nilCheck (ev rfl)).mono ?_; rintro _ _ ⟨rfl, rfl⟩
    exact ⟨rfl, Ext.refl _⟩
  refine RW_d (fun v34 => [(Pt g_b g_o), Ud, (Pt b15 0), v28, v29, v30, v31, v32, v33, v34, Ud, Ud, Ud, Ud, Ud, Ud]) rfl (fun _ => rfl) (fun u hu hF => ?_) (fun v34 => ?_)
  · have h8_ : v33 = (Pt g_b g_o) := hF.1
    clear hF
    refine doesG_un rfl ?_
    obtain rfl := h8_
    refine (does_fieldAddr (ev rfl) fa31_3).mono ?_; rintro _ _ ⟨rfl, rfl⟩
    exact ⟨rfl, Ext.refl _⟩
  refine RW_d (fun v35 => [(Pt g_b g_o), Ud, (Pt b15 0), v28, v29, v30, v31, v32, v33, v34, v35, Ud, Ud, Ud, Ud, Ud]) rfl (fun _ => rfl) (fun u hu hF => ?_) (fun v35 => ?_)
  · have h9_ : v34 = (Pt g_b (g_o + 5)) := hF.1
    clear hF
    refine doesG_un rfl ?_
    obtain rfl := h9_
    refine (does_load (u := (Iv A_g.y)) (ev rfl) Try.isAgg2 (Cells.at ((hc_g.ext (Ext.gr X22 E25)).ext hu) 5 rfl)).mono ?_; rintro _ _ ⟨rfl, rfl⟩
    exact ⟨rfl, Ext.refl _⟩
  refine RW_d (fun v36 => [(Pt g_b g_o), Ud, (Pt b15 0), v28, v29, v30, v31, v32, v33, v34, v35, v36, Ud, Ud, Ud, Ud]) rfl (fun _ => rfl) (fun u hu hF => ?_) (fun v36 => ?_)
  · clear hF
    refine doesG_un rfl ?_
    refine (does_move (u := (Pt g_b g_o)) (ev rfl)).mono ?_; rintro _ _ ⟨rfl, rfl⟩
    exact ⟨rfl, Ext.refl _⟩
  refine RW_d (fun v37 => [(Pt g_b g_o), Ud, (Pt b15 0), v28, v29, v30, v31, v32, v33, v34, v35, v36, v37, Ud, Ud, Ud]) rfl (fun _ => rfl) (fun u hu hF => ?_) (fun v37 => ?_)
  · have h11_ : v36 = (Pt g_b g_o) := hF.1
    clear hF
    refine doesG_un rfl ?_
    obtain rfl := h11_
    refine (does_nilCheck (ev rfl)).mono ?_; rintro _ _ ⟨rfl, rfl⟩
    exact ⟨rfl, Ext.refl _⟩
  refine RW_d (fun v38 => [(Pt g_b g_o), Ud, (Pt b15 0), v28, v29, v30, v31, v32, v33, v34, v35, v36, v37, v38, Ud, Ud]) rfl (fun _ => rfl) (fun u hu hF => ?_) (fun v38 => ?_)
  · have h12_ : v37 = (Pt g_b g_o) := hF.1
    clear hF
    refine doesG_un rfl ?_
    obtain rfl := h12_
    refine (does_fieldAddr (ev rfl) fa31_4).mono ?_; rintro _ _ ⟨rfl, rfl⟩
    exact ⟨rfl, Ext.refl _⟩
  refine RW_d (fun v39 => [(Pt g_b g_o), Ud, (Pt b15 0), v28, v29, v30, v31, v32, v33, v34, v35, v36, v37, v38, v39, Ud]) rfl (fun _ => rfl) (fun u hu hF => ?_) (fun v39 => ?_)
  · have h13_ : v38 = (Pt g_b (g_o + 6)) := hF.1
    clear hF
    refine doesG_un rfl ?_
    obtain rfl := h13_
    refine (does_load (u := (Iv A_g.z)) (ev rfl) Try.isAgg2 (Cells.at ((hc_g.ext (Ext.gr X22 E25)).ext hu) 6 rfl)).mono ?_; rintro _ _ ⟨rfl, rfl⟩
    exact ⟨rfl, Ext.refl _⟩
  refine RW_d (fun v40 => [(Pt g_b g_o), Ud, (Pt b15 0), v28, v29, v30, v31, v32, v33, v34, v35, v36, v37, v38, v39, v40]) rfl (fun _ => rfl) (fun u hu hF => ?_) (fun v40 => ?_)
  · have h6_ : v31 = (Iv A_g.x) := hF.1
    have h10_ : v35 = (Iv A_g.y) := hF.2.1
    have h14_ : v39 = (Iv A_g.z) := hF.2.2.1
    clear hF
    refine doesG_un rfl ?_
    obtain rfl := h6_
    obtain rfl := h10_
    obtain rfl := h14_
    refine (does_build (parts' := [(0, (Iv A_g.x)), (1, (Iv A_g.y)), (2, (Iv A_g.z))]) (cells := #[(Iv A_g.x), (Iv A_g.y), (Iv A_g.z)]) (evp rfl) (by kernel_rfl)).mono ?_; rintro _ _ ⟨rfl, rfl⟩
    exact ⟨rfl, Ext.refl _⟩
  refine RW_fin ?_; intro w41 E42 hP43
  obtain ⟨⟨⟨⟨⟨⟨⟨⟨⟨⟨⟨⟨⟨-, -⟩, -⟩, -⟩, -⟩, -⟩, -⟩, -⟩, -⟩, -⟩, -⟩, -⟩, -⟩, q44⟩ := hP43
  have X45 := Ext.gr X27 E42
  have q44 : v40 = (.agg #[(Iv A_g.x), (Iv A_g.y), (Iv A_g.z)]) := q44
  obtain rfl := q44
  show wpList _ _ _ _ (fr [(Pt g_b g_o), Ud, (Pt b15 0), v28, v29, v30, v31, v32, v33, v34, v35, v36, v37, v38, v39, (.agg #[(Iv A_g.x), (Iv A_g.y), (Iv A_g.z)])]) _
  refine seqn rfl rfl (does_store (n := 3) (cs := [(Iv 0), (Iv 0), (Iv 0)]) (u := (.agg #[(Iv A_g.x), (Iv A_g.y), (Iv A_g.z)])) (ev rfl) (ev rfl) Try.sizeOf55 rfl ((hB17.ext E25).ext E42) (Nat.le_of_ble_eq_true rfl) rfl) ?_; rintro _ w48 ⟨rfl, W46, hB47⟩
  change Blk _ _ [(Iv A_g.x), (Iv A_g.y), (Iv A_g.z)] at hB47
  have X49 := Below.wr X45 W46 g21
  refine wpList_nil (hK23 _ _ ?_)
  refine wp_ret ?_
  refine ret_val (v := (.agg #[(Iv A_g.x), (Iv A_g.y), (Iv A_g.z)])) (res_C rfl (slot rfl) (run_loadAgg (cs := [(Iv A_g.x), (Iv A_g.y), (Iv A_g.z)]) Try.isAgg55 Try.sizeOf55 (Blk.cells hB47) rfl)) X49 ?_
  have x50 : (A_g.x : Int) = A_g.x := by first | with_reducible rfl | (simp only [h2, h4, h6, h8]; done) | (simp [h2, h4, h6, h8]; done) | rfl
  have x51 : (A_g.y : Int) = A_g.y := by first | with_reducible rfl | (simp only [h2, h4, h6, h8]; done) | (simp [h2, h4, h6, h8]; done) | rfl
  have x52 : (A_g.z : Int) = A_g.z := by first | with_reducible rfl | (simp only [h2, h4, h6, h8]; done) | (simp [h2, h4, h6, h8]; done) | rfl
  exact (by first | rfl | rw [x50, x51, x52])

/- impl.in -/
theorem c_impl_in (n : Int) (low : Int) (high : Int) (w : World) : Gives Try.prog 40 #[(Iv n), (Iv low), (Iv high)] w (fun v w' => v = (Bo (inI n low high))) := by
  refine enter [(Iv n), (Iv low), (Iv high), Ud, Ud, Ud, Ud, Ud, Ud, Ud, Ud, Ud, Ud, Ud, Ud] Try.func40 rfl Try.ntmps40 rfl ?_
  refine wp_seq_k fun K1 hK1 => ?_
  refine wp_region_lit ?_
  refine q_is (l' := [(Iv n), (Iv low), (Iv high), Ud, Ud, Ud, (Bo false), Ud, Ud, Ud, Ud, Ud, Ud, Ud, Ud]) rfl rfl (does_assign (u := (Bo false)) (ev rfl)) rfl ?_
  refine wpList_nil (hK1 _ _ ?_)
  refine wp_seq_k fun K2 hK2 => ?_
  obtain ⟨β1, hβ1⟩ : ∃ b : Bool, b = ((icmp .geq n low) && (icmp .leq n high)) := ⟨_, rfl⟩
  refine region_text (
    [Fact.pure [] (fun v => v = (Iv n)),
    Fact.pure [] (fun v => v = (Iv low)),
    Fact.pure [7, 8] (fun v => v = (Bo (icmp .geq n low))),
    Fact.pure [9] (fun v => v = (Bo (icmp .geq n low))),
    Fact.pure [10] (fun v => (icmp .geq n low) = true → v = (Iv n)),
    Fact.pure [10] (fun v => (icmp .geq n low) = true → v = (Iv high)),
    Fact.pure [11, 12, 10] (fun v => (icmp .geq n low) = true → v = (Bo (icmp .leq n high))),
    Fact.pure [10, 13] (fun v => v = (Bo β1))]) (by simp [Fact.pure, Fact.mem]) ?_
  refine RW_d (fun v3 => [(Iv n), (Iv low), (Iv high), Ud, Ud, Ud, (Bo false), v3, Ud, Ud, Ud, Ud, Ud, Ud, Ud]) rfl (fun _ => rfl) (fun u hu hF => ?_) (fun v3 => ?_)
  · clear hF
    refine doesG_un rfl ?_
    refine (does_move (u := (Iv n)) (ev rfl)).mono ?_; rintro _ _ ⟨rfl, rfl⟩
    exact ⟨rfl, Ext.refl _⟩
  refine RW_d (fun v4 => [(Iv n), (Iv low), (Iv high), Ud, Ud, Ud, (Bo false), v3, v4, Ud, Ud, Ud, Ud, Ud, Ud]) rfl (fun _ => rfl) (fun u hu hF => ?_) (fun v4 => ?_)
  · clear hF
    refine doesG_un rfl ?_
    refine (does_move (u := (Iv low)) (ev rfl)).mono ?_; rintro _ _ ⟨rfl, rfl⟩
    exact ⟨rfl, Ext.refl _⟩
  refine RW_d (fun v5 => [(Iv n), (Iv low), (Iv high), Ud, Ud, Ud, (Bo false), v3, v4, v5, Ud, Ud, Ud, Ud, Ud]) rfl (fun _ => rfl) (fun u hu hF => ?_) (fun v5 => ?_)
  · have h7_ : v3 = (Iv n) := hF.1
    have h8_ : v4 = (Iv low) := hF.2.1
    clear hF
    refine doesG_un rfl ?_
    obtain rfl := h7_
    obtain rfl := h8_
    refine (does_icmp (p := n) (q := low) (.inr (.inr (.inr (.inr (.inr rfl))))) (ev rfl) (ev rfl)).mono ?_; rintro _ _ ⟨rfl, rfl⟩
    exact ⟨rfl, Ext.refl _⟩
  refine RW_d (fun v6 => [(Iv n), (Iv low), (Iv high), Ud, Ud, Ud, (Bo false), v3, v4, v5, v6, Ud, Ud, Ud, Ud]) rfl (fun _ => rfl) (fun u hu hF => ?_) (fun v6 => ?_)
  · have h9_ : v5 = (Bo (icmp .geq n low)) := hF.1
    clear hF
    refine doesG_un rfl ?_
    obtain rfl := h9_
    refine (does_move (u := (Bo (icmp .geq n low))) (ev rfl)).mono ?_; rintro _ _ ⟨rfl, rfl⟩
    exact ⟨rfl, Ext.refl _⟩
  refine RW_d (fun v7 => [(Iv n), (Iv low), (Iv high), Ud, Ud, Ud, (Bo false), v3, v4, v5, v6, v7, Ud, Ud, Ud]) rfl (fun _ => rfl) (fun u hu hF => ?_) (fun v7 => ?_)
  · have h10_ : v6 = (Bo (icmp .geq n low)) := hF.1
    clear hF
    obtain rfl := h10_
    refine doesG_g (b := (icmp .geq n low)) rfl (yld rfl rfl) (fun hg1 => ?_) (fun hc => ⟨fun hg1 => absurd hg1 hc, Ext.refl _⟩)
    refine (does_move (u := (Iv n)) (ev rfl)).mono ?_; rintro _ _ ⟨rfl, rfl⟩
    exact ⟨fun _ => rfl, Ext.refl _⟩
  refine RW_d (fun v8 => [(Iv n), (Iv low), (Iv high), Ud, Ud, Ud, (Bo false), v3, v4, v5, v6, v7, v8, Ud, Ud]) rfl (fun _ => rfl) (fun u hu hF => ?_) (fun v8 => ?_)
  · have h10_ : v6 = (Bo (icmp .geq n low)) := hF.1
    clear hF
    obtain rfl := h10_
    refine doesG_g (b := (icmp .geq n low)) rfl (yld rfl rfl) (fun hg1 => ?_) (fun hc => ⟨fun hg1 => absurd hg1 hc, Ext.refl _⟩)
    refine (does_move (u := (Iv high)) (ev rfl)).mono ?_; rintro _ _ ⟨rfl, rfl⟩
    exact ⟨fun _ => rfl, Ext.refl _⟩
  refine RW_d (fun v9 => [(Iv n), (Iv low), (Iv high), Ud, Ud, Ud, (Bo false), v3, v4, v5, v6, v7, v8, v9, Ud]) rfl (fun _ => rfl) (fun u hu hF => ?_) (fun v9 => ?_)
  · have h11_ : (icmp .geq n low) = true → v7 = (Iv n) := hF.1
    have h12_ : (icmp .geq n low) = true → v8 = (Iv high) := hF.2.1
    have h10_ : v6 = (Bo (icmp .geq n low)) := hF.2.2.1
    clear hF
    obtain rfl := h10_
    refine doesG_g (b := (icmp .geq n low)) rfl (yld rfl rfl) (fun hg1 => ?_) (fun hc => ⟨fun hg1 => absurd hg1 hc, Ext.refl _⟩)
    obtain rfl := h11_ hg1
    obtain rfl := h12_ hg1
    refine (does_icmp (p := n) (q := high) (.inr (.inr (.inr (.inl rfl)))) (ev rfl) (ev rfl)).mono ?_; rintro _ _ ⟨rfl, rfl⟩
    exact ⟨fun _ => rfl, Ext.refl _⟩
  refine RW_d (fun v10 => [(Iv n), (Iv low), (Iv high), Ud, Ud, Ud, (Bo false), v3, v4, v5, v6, v7, v8, v9, v10]) rfl (fun _ => rfl) (fun u hu hF => ?_) (fun v10 => ?_)
  · have h10_ : v6 = (Bo (icmp .geq n low)) := hF.1
    have h13_ : (icmp .geq n low) = true → v9 = (Bo (icmp .leq n high)) := hF.2.1
    clear hF
    refine doesG_un rfl ?_
    skip
    obtain rfl := h10_
    refine (does_pick (b := (icmp .geq n low)) (ev rfl) (ev rfl) (ev rfl)).mono ?_; rintro _ _ ⟨rfl, rfl⟩; refine ⟨?_, Ext.refl _⟩; rw [hβ1]; skip
    cases hbb : (icmp .geq n low) <;> simp [hbb] at h13_ ⊢
    all_goals (first | rfl | (subst h13_; rfl) | simp_all)
  refine RW_fin ?_; intro w11 E12 hP13
  obtain ⟨⟨⟨⟨⟨⟨⟨⟨-, -⟩, -⟩, -⟩, -⟩, -⟩, -⟩, -⟩, q14⟩ := hP13
  have X15 := Ext.gr (Ext.refl w) E12
  have q14 : v10 = (Bo β1) := q14
  obtain rfl := q14
  show wpList _ _ _ _ (fr [(Iv n), (Iv low), (Iv high), Ud, Ud, Ud, (Bo false), v3, v4, v5, v6, v7, v8, v9, (Bo β1)]) _
  refine q_is (l' := [(Iv n), (Iv low), (Iv high), Ud, Ud, Ud, (Bo β1), v3, v4, v5, v6, v7, v8, v9, (Bo β1)]) rfl rfl (does_assign (u := (Bo β1)) (ev rfl)) rfl ?_
  refine wpList_nil (hK2 _ _ ?_)
  refine wp_ret ?_
  refine ret_val (v := (Bo β1)) (res_T rfl (slot rfl)) X15 ?_
  have x16 : (inI n low high) = β1 := by first | with_reducible rfl | (simp only [inI, hβ1]; done) | (simp [inI, hβ1]; done) | rfl
  exact (by first | rfl | rw [x16])

/- slices.IndexFunc[[]float32,float32] -/
theorem c_slices_IndexFunc_float32_float32 (xs : Value) (L_xs : List Nat) (f : Value) (pr_f : Nat → Bool) (w : World) (hv_xs : Sl RF 1 w xs L_xs) (hv_f : TellsF Try.prog f w pr_f) : Gives Try.prog 63 #[xs, f] w (fun v w' => v = (Iv (findI pr_f L_xs))) := by
  have hlen_xs := Sl.len hv_xs; obtain ⟨p_xs, q_xs, rfl⟩ := Sl.shape hv_xs
  obtain ⟨f_f, s_f, c_f, rfl, hcal_f, hg_f⟩ := hv_f
  refine enter [(.slice p_xs L_xs.length q_xs), (.func (.func f_f) s_f c_f), Ud, Ud, Ud, Ud, Ud, Ud, Ud, Ud, Ud, Ud, Ud, Ud, Ud, Ud, Ud, Ud, Ud] Try.func63 rfl Try.ntmps63 rfl ?_
  refine wp_seq_k fun K1 hK1 => ?_
  refine wp_region_lit ?_
  refine q_is (l' := [(.slice p_xs L_xs.length q_xs), (.func (.func f_f) s_f c_f), Ud, Ud, (Iv 0), Ud, Ud, Ud, Ud, Ud, Ud, Ud, Ud, Ud, Ud, Ud, Ud, Ud, Ud]) rfl rfl (does_assign (u := (Iv 0)) (ev rfl)) rfl ?_
  refine wpList_nil (hK1 _ _ ?_)
  refine wp_seq_k fun K2 hK2 => ?_
  refine wp_seq_k fun K3 hK3 => ?_
  refine wp_region_lit ?_
  refine q_is (l' := [(.slice p_xs L_xs.length q_xs), (.func (.func f_f) s_f c_f), Ud, Ud, (Iv 0), Ud, (.slice p_xs L_xs.length q_xs), Ud, Ud, Ud, Ud, Ud, Ud, Ud, Ud, Ud, Ud, Ud, Ud]) rfl rfl (does_move (u := (.slice p_xs L_xs.length q_xs)) (ev rfl)) rfl ?_
  refine q_is (l' := [(.slice p_xs L_xs.length q_xs), (.func (.func f_f) s_f c_f), Ud, Ud, (Iv 0), Ud, (.slice p_xs L_xs.length q_xs), (Iv (L_xs.length : Int)), Ud, Ud, Ud, Ud, Ud, Ud, Ud, Ud, Ud, Ud, Ud]) rfl rfl (does_len_slice Try.underlying25 (ev rfl)) rfl ?_
  refine q_is (l' := [(.slice p_xs L_xs.length q_xs), (.func (.func f_f) s_f c_f), Ud, Ud, (Iv 0), Ud, (.slice p_xs L_xs.length q_xs), (Iv (L_xs.length : Int)), (Iv 0), Ud, Ud, Ud, Ud, Ud, Ud, Ud, Ud, Ud, Ud]) rfl rfl (does_move (u := (Iv 0)) (ev rfl)) rfl ?_
  refine wpList_nil (hK3 _ _ ?_)
  refine wp_block ?_
  refine loop_ghost (σ := Nat) (fun k a w' => ∃ u4 : Nat → Value, a = fr [(.slice p_xs L_xs.length q_xs), (.func (.func f_f) s_f c_f), Ud, Ud, (u4 4), (u4 5), (.slice p_xs L_xs.length q_xs), (Iv (L_xs.length : Int)), (Iv (k : Int)), (u4 9), (u4 10), (u4 11), (u4 12), (u4 13), (u4 14), (u4 15), (u4 16), (u4 17), (u4 18)] ∧ Ext w w' ∧ (k ≤ L_xs.length ∧ NoneTo pr_f L_xs k)) (fun k => L_xs.length - k) 0 ?_ ?_
  · refine ⟨fun t => (([(.slice p_xs L_xs.length q_xs), (.func (.func f_f) s_f c_f), Ud, Ud, (Iv 0), Ud, (.slice p_xs L_xs.length q_xs), (Iv (L_xs.length : Int)), (Iv 0), Ud, Ud, Ud, Ud, Ud, Ud, Ud, Ud, Ud, Ud] : List Value)[t]?).getD undef, rfl, Ext.refl _, ?_⟩
    exact ⟨Nat.zero_le _, NoneTo.zero⟩
  · rintro k a w5 ⟨u4, rfl, E6, ⟨hk, hno⟩⟩
    have X8 := Ext.gr (Ext.refl w) E6
    refine wp_seq_k fun K9 hK9 => ?_
    refine wp_region_lit ?_
    refine q_is (l' := [(.slice p_xs L_xs.length q_xs), (.func (.func f_f) s_f c_f), Ud, Ud, (u4 4), (u4 5), (.slice p_xs L_xs.length q_xs), (Iv (L_xs.length : Int)), (Iv (k : Int)), (Bo (icmp .lss (k : Int) (L_xs.length : Int))), (u4 10), (u4 11), (u4 12), (u4 13), (u4 14), (u4 15), (u4 16), (u4 17), (u4 18)]) rfl rfl (does_icmp (p := (k : Int)) (q := (L_xs.length : Int)) (.inr (.inr (.inl rfl))) (ev rfl) (ev rfl)) rfl ?_
    refine wpList_nil (hK9 _ _ ?_)
    refine wp_seq_k fun K10 hK10 => ?_
    refine wp_cond_split (t := icmp .lss (k : Int) (L_xs.length : Int)) (ev rfl) (fun c11 => ?_) (fun c11 => ?_)
    · have c11' := c11
      (try simp only [icmp, Bool.and_eq_true, Bool.or_eq_true, Bool.and_eq_false_iff, Bool.or_eq_false_iff, Bool.not_eq_true', Bool.not_eq_false', decide_eq_true_eq, decide_eq_false_iff_not, beq_iff_eq, bne_iff_ne, beq_eq_false_iff_ne, bne_eq_false_iff_eq] at c11')
      refine wp_skip (hK10 _ _ ?_)
      refine wp_seq_k fun K12 hK12 => ?_
      refine wp_block ?_
      refine wp_seq_k fun K13 hK13 => ?_
      refine wp_region_lit ?_
      refine q_is (l' := [(.slice p_xs L_xs.length q_xs), (.func (.func f_f) s_f c_f), Ud, Ud, (u4 4), (u4 5), (.slice p_xs L_xs.length q_xs), (Iv (L_xs.length : Int)), (Iv (k : Int)), (Bo (icmp .lss (k : Int) (L_xs.length : Int))), (Iv (k : Int)), (u4 11), (u4 12), (u4 13), (u4 14), (u4 15), (u4 16), (u4 17), (u4 18)]) rfl rfl (does_move (u := (Iv (k : Int))) (ev rfl)) rfl ?_
      refine q_is (l' := [(.slice p_xs L_xs.length q_xs), (.func (.func f_f) s_f c_f), Ud, Ud, (u4 4), (Iv (k : Int)), (.slice p_xs L_xs.length q_xs), (Iv (L_xs.length : Int)), (Iv (k : Int)), (Bo (icmp .lss (k : Int) (L_xs.length : Int))), (Iv (k : Int)), (u4 11), (u4 12), (u4 13), (u4 14), (u4 15), (u4 16), (u4 17), (u4 18)]) rfl rfl (does_assign (u := (Iv (k : Int))) (ev rfl)) rfl ?_
      refine wpList_nil (hK13 _ _ ?_)
      refine wp_seq_k fun K14 hK14 => ?_
      refine wp_region_lit ?_
      refine q_is (l' := [(.slice p_xs L_xs.length q_xs), (.func (.func f_f) s_f c_f), Ud, Ud, (u4 4), (Iv (k : Int)), (.slice p_xs L_xs.length q_xs), (Iv (L_xs.length : Int)), (Iv (k : Int)), (Bo (icmp .lss (k : Int) (L_xs.length : Int))), (Iv (k : Int)), (.func (.func f_f) s_f c_f), (u4 12), (u4 13), (u4 14), (u4 15), (u4 16), (u4 17), (u4 18)]) rfl rfl (does_move (u := (.func (.func f_f) s_f c_f)) (ev rfl)) rfl ?_
      refine q_is (l' := [(.slice p_xs L_xs.length q_xs), (.func (.func f_f) s_f c_f), Ud, Ud, (u4 4), (Iv (k : Int)), (.slice p_xs L_xs.length q_xs), (Iv (L_xs.length : Int)), (Iv (k : Int)), (Bo (icmp .lss (k : Int) (L_xs.length : Int))), (Iv (k : Int)), (.func (.func f_f) s_f c_f), (.slice p_xs L_xs.length q_xs), (u4 13), (u4 14), (u4 15), (u4 16), (u4 17), (u4 18)]) rfl rfl (does_move (u := (.slice p_xs L_xs.length q_xs)) (ev rfl)) rfl ?_
      refine q_is (l' := [(.slice p_xs L_xs.length q_xs), (.func (.func f_f) s_f c_f), Ud, Ud, (u4 4), (Iv (k : Int)), (.slice p_xs L_xs.length q_xs), (Iv (L_xs.length : Int)), (Iv (k : Int)), (Bo (icmp .lss (k : Int) (L_xs.length : Int))), (Iv (k : Int)), (.func (.func f_f) s_f c_f), (.slice p_xs L_xs.length q_xs), (Iv (k : Int)), (u4 14), (u4 15), (u4 16), (u4 17), (u4 18)]) rfl rfl (does_move (u := (Iv (k : Int))) (ev rfl)) rfl ?_
      obtain ⟨el1, hel1⟩ : ∃ e, L_xs[k]? = some e := ⟨_, List.getElem?_eq_getElem (by omega)⟩
      refine seqd rfl rfl (does_indexSl (R := RF) (i := (k : Int)) (xs := L_xs) (e := el1) Try.underlying25 Try.sizeOf22 (ev rfl) (ev rfl) (Sl.ext hv_xs RF.mono X8) (by omega) hel1) ?_; rintro _ w5 ⟨b15, o16, _, rfl, hc18, ⟨r19, rfl, h20⟩, rfl⟩
      show wpList _ _ _ _ (fr [(.slice p_xs L_xs.length q_xs), (.func (.func f_f) s_f c_f), Ud, Ud, (u4 4), (Iv (k : Int)), (.slice p_xs L_xs.length q_xs), (Iv (L_xs.length : Int)), (Iv (k : Int)), (Bo (icmp .lss (k : Int) (L_xs.length : Int))), (Iv (k : Int)), (.func (.func f_f) s_f c_f), (.slice p_xs L_xs.length q_xs), (Iv (k : Int)), (Pt b15 o16), (u4 15), (u4 16), (u4 17), (u4 18)]) _
      refine q_is (l' := [(.slice p_xs L_xs.length q_xs), (.func (.func f_f) s_f c_f), Ud, Ud, (u4 4), (Iv (k : Int)), (.slice p_xs L_xs.length q_xs), (Iv (L_xs.length : Int)), (Iv (k : Int)), (Bo (icmp .lss (k : Int) (L_xs.length : Int))), (Iv (k : Int)), (.func (.func f_f) s_f c_f), (.slice p_xs L_xs.length q_xs), (Iv (k : Int)), (Pt b15 o16), (Fl r19), (u4 16), (u4 17), (u4 18)]) rfl rfl (does_load (u := (Fl r19)) (ev rfl) Try.isAgg22 (Cells.at hc18 0 rfl)) rfl ?_
      refine seqd rfl rfl (does_callf (args := #[(Fl r19)]) (ev rfl) hcal_f (evs rfl) (hg_f r19 _ X8)) ?_; rintro _ w22 ⟨E21, rfl⟩
      have X23 := Ext.gr X8 E21
      show wpList _ _ _ _ (fr [(.slice p_xs L_xs.length q_xs), (.func (.func f_f) s_f c_f), Ud, Ud, (u4 4), (Iv (k : Int)), (.slice p_xs L_xs.length q_xs), (Iv (L_xs.length : Int)), (Iv (k : Int)), (Bo (icmp .lss (k : Int) (L_xs.length : Int))), (Iv (k : Int)), (.func (.func f_f) s_f c_f), (.slice p_xs L_xs.length q_xs), (Iv (k : Int)), (Pt b15 o16), (Fl r19), (Bo (pr_f (cf .f32 r19))), (u4 17), (u4 18)]) _
      refine wpList_nil (hK14 _ _ ?_)
      refine wp_cond_split (t := pr_f (cf .f32 r19)) (ev rfl) (fun c24 => ?_) (fun c24 => ?_)
      · have c24' := c24
        refine wp_seq_k fun K25 hK25 => ?_
        refine wp_region_lit ?_
        refine q_is (l' := [(.slice p_xs L_xs.length q_xs), (.func (.func f_f) s_f c_f), Ud, Ud, (u4 4), (Iv (k : Int)), (.slice p_xs L_xs.length q_xs), (Iv (L_xs.length : Int)), (Iv (k : Int)), (Bo (icmp .lss (k : Int) (L_xs.length : Int))), (Iv (k : Int)), (.func (.func f_f) s_f c_f), (.slice p_xs L_xs.length q_xs), (Iv (k : Int)), (Pt b15 o16), (Fl r19), (Bo (pr_f (cf .f32 r19))), (Iv (k : Int)), (u4 18)]) rfl rfl (does_move (u := (Iv (k : Int))) (ev rfl)) rfl ?_
        refine q_is (l' := [(.slice p_xs L_xs.length q_xs), (.func (.func f_f) s_f c_f), Ud, Ud, (Iv (k : Int)), (Iv (k : Int)), (.slice p_xs L_xs.length q_xs), (Iv (L_xs.length : Int)), (Iv (k : Int)), (Bo (icmp .lss (k : Int) (L_xs.length : Int))), (Iv (k : Int)), (.func (.func f_f) s_f c_f), (.slice p_xs L_xs.length q_xs), (Iv (k : Int)), (Pt b15 o16), (Fl r19), (Bo (pr_f (cf .f32 r19))), (Iv (k : Int)), (u4 18)]) rfl rfl (does_assign (u := (Iv (k : Int))) (ev rfl)) rfl ?_
        refine wpList_nil (hK25 _ _ ?_)
        refine wp_ret ?_
        dsimp only [Exit.then, Exit.inBlock]
        refine ret_val (v := (Iv (k : Int))) (res_T rfl (slot rfl)) X23 ?_
        try simp only [hel1, h20] at c11 c24
        have x26 : (findI pr_f L_xs : Int) = (k : Int) := by first | exact findI_at hno (by assumption) (by simp_all) | exact findI_none hno (by omega)
        exact (by first | rfl | rw [x26])
      have c24' := c24
      refine wp_skip (hK12 _ _ ?_)
      refine wp_region_lit ?_
      refine q_is (l' := [(.slice p_xs L_xs.length q_xs), (.func (.func f_f) s_f c_f), Ud, Ud, (u4 4), (Iv (k : Int)), (.slice p_xs L_xs.length q_xs), (Iv (L_xs.length : Int)), (Iv (k : Int)), (Bo (icmp .lss (k : Int) (L_xs.length : Int))), (Iv (k : Int)), (.func (.func f_f) s_f c_f), (.slice p_xs L_xs.length q_xs), (Iv (k : Int)), (Pt b15 o16), (Fl r19), (Bo (pr_f (cf .f32 r19))), (u4 17), (Iv ((k : Int) + 1))]) rfl rfl (does_iarith (p := (k : Int)) (q := 1) (r := (k : Int) + 1) (ev rfl) (ev rfl) (.inl ⟨rfl, (in_i64 (by omega) (by omega)).symm⟩)) rfl ?_
      refine q_is (l' := [(.slice p_xs L_xs.length q_xs), (.func (.func f_f) s_f c_f), Ud, Ud, (u4 4), (Iv (k : Int)), (.slice p_xs L_xs.length q_xs), (Iv (L_xs.length : Int)), (Iv ((k : Int) + 1)), (Bo (icmp .lss (k : Int) (L_xs.length : Int))), (Iv (k : Int)), (.func (.func f_f) s_f c_f), (.slice p_xs L_xs.length q_xs), (Iv (k : Int)), (Pt b15 o16), (Fl r19), (Bo (pr_f (cf .f32 r19))), (u4 17), (Iv ((k : Int) + 1))]) rfl rfl (does_move (u := (Iv ((k : Int) + 1))) (ev rfl)) rfl ?_
      refine wpList_nil ?_
      refine ⟨k + 1, ⟨fun t => (([(.slice p_xs L_xs.length q_xs), (.func (.func f_f) s_f c_f), Ud, Ud, (u4 4), (Iv (k : Int)), (.slice p_xs L_xs.length q_xs), (Iv (L_xs.length : Int)), (Iv ((k : Int) + 1)), (Bo (icmp .lss (k : Int) (L_xs.length : Int))), (Iv (k : Int)), (.func (.func f_f) s_f c_f), (.slice p_xs L_xs.length q_xs), (Iv (k : Int)), (Pt b15 o16), (Fl r19), (Bo (pr_f (cf .f32 r19))), (u4 17), (Iv ((k : Int) + 1))] : List Value)[t]?).getD undef, ?_, (Ext.gr E6 E21), ?_⟩, ?_⟩
      · first | rfl | (simp only [Nat.cast_add, Nat.cast_one, Int.natCast_add, Int.natCast_one]; rfl)
      · exact ⟨by omega, NoneTo.step hno (by assumption) (by simp_all)⟩
      · omega
    have c11' := c11
    (try simp only [icmp, Bool.and_eq_true, Bool.or_eq_true, Bool.and_eq_false_iff, Bool.or_eq_false_iff, Bool.not_eq_true', Bool.not_eq_false', decide_eq_true_eq, decide_eq_false_iff_not, beq_iff_eq, bne_iff_ne, beq_eq_false_iff_ne, bne_eq_false_iff_eq] at c11')
    refine wp_exit ?_
    refine hK2 _ _ ?_
    refine wp_seq_k fun K27 hK27 => ?_
    refine wp_region_lit ?_
    refine q_is (l' := [(.slice p_xs L_xs.length q_xs), (.func (.func f_f) s_f c_f), Ud, Ud, (Iv (-1)), (u4 5), (.slice p_xs L_xs.length q_xs), (Iv (L_xs.length : Int)), (Iv (k : Int)), (Bo (icmp .lss (k : Int) (L_xs.length : Int))), (u4 10), (u4 11), (u4 12), (u4 13), (u4 14), (u4 15), (u4 16), (u4 17), (u4 18)]) rfl rfl (does_assign (u := (Iv (-1))) (ev rfl)) rfl ?_
    refine wpList_nil (hK27 _ _ ?_)
    refine wp_ret ?_
    refine ret_val (v := (Iv (-1))) (res_T rfl (slot rfl)) X8 ?_
    have x28 : (findI pr_f L_xs : Int) = (-1) := by first | exact findI_at hno (by assumption) (by simp_all) | exact findI_none hno (by omega)
    exact (by first | rfl | rw [x28])

/- slices.ContainsFunc[[]float32,float32] -/
theorem c_slices_ContainsFunc_float32_float32 (xs : Value) (L_xs : List Nat) (f : Value) (pr_f : Nat → Bool) (w : World) (hv_xs : Sl RF 1 w xs L_xs) (hv_f : TellsF Try.prog f w pr_f) : Gives Try.prog 61 #[xs, f] w (fun v w' => v = (Bo (L_xs.any pr_f))) := by
  have hlen_xs := Sl.len hv_xs; obtain ⟨p_xs, q_xs, rfl⟩ := Sl.shape hv_xs
  obtain ⟨f_f, s_f, c_f, rfl, hcal_f, hg_f⟩ := hv_f
  refine enter [(.slice p_xs L_xs.length q_xs), (.func (.func f_f) s_f c_f), Ud, Ud, Ud, Ud, Ud, Ud, Ud] Try.func61 rfl Try.ntmps61 rfl ?_
  refine wp_seq_k fun K1 hK1 => ?_
  refine wp_region_lit ?_
  refine q_is (l' := [(.slice p_xs L_xs.length q_xs), (.func (.func f_f) s_f c_f), Ud, Ud, (Bo false), Ud, Ud, Ud, Ud]) rfl rfl (does_assign (u := (Bo false)) (ev rfl)) rfl ?_
  refine wpList_nil (hK1 _ _ ?_)
  refine wp_seq_k fun K2 hK2 => ?_
  refine wp_region_lit ?_
  refine q_is (l' := [(.slice p_xs L_xs.length q_xs), (.func (.func f_f) s_f c_f), Ud, Ud, (Bo false), (.slice p_xs L_xs.length q_xs), Ud, Ud, Ud]) rfl rfl (does_move (u := (.slice p_xs L_xs.length q_xs)) (ev rfl)) rfl ?_
  refine q_is (l' := [(.slice p_xs L_xs.length q_xs), (.func (.func f_f) s_f c_f), Ud, Ud, (Bo false), (.slice p_xs L_xs.length q_xs), (.func (.func f_f) s_f c_f), Ud, Ud]) rfl rfl (does_move (u := (.func (.func f_f) s_f c_f)) (ev rfl)) rfl ?_
  refine seqd rfl rfl (does_call (args := #[(.slice p_xs L_xs.length q_xs), (.func (.func f_f) s_f c_f)]) cal63 (evs rfl) (c_slices_IndexFunc_float32_float32 (.slice p_xs L_xs.length q_xs) L_xs (.func (.func f_f) s_f c_f) pr_f _ hv_xs ⟨_, _, _, rfl, hcal_f, fun r u hu' => hg_f r u (Ext.gr (Ext.refl w) hu')⟩)) ?_; rintro _ w4 ⟨E3, rfl⟩
  have X5 := Ext.gr (Ext.refl w) E3
  show wpList _ _ _ _ (fr [(.slice p_xs L_xs.length q_xs), (.func (.func f_f) s_f c_f), Ud, Ud, (Bo false), (.slice p_xs L_xs.length q_xs), (.func (.func f_f) s_f c_f), (Iv (findI pr_f L_xs)), Ud]) _
  refine q_is (l' := [(.slice p_xs L_xs.length q_xs), (.func (.func f_f) s_f c_f), Ud, Ud, (Bo false), (.slice p_xs L_xs.length q_xs), (.func (.func f_f) s_f c_f), (Iv (findI pr_f L_xs)), (Bo (icmp .geq (findI pr_f L_xs) 0))]) rfl rfl (does_icmp (p := findI pr_f L_xs) (q := 0) (.inr (.inr (.inr (.inr (.inr rfl))))) (ev rfl) (ev rfl)) rfl ?_
  refine q_is (l' := [(.slice p_xs L_xs.length q_xs), (.func (.func f_f) s_f c_f), Ud, Ud, (Bo (icmp .geq (findI pr_f L_xs) 0)), (.slice p_xs L_xs.length q_xs), (.func (.func f_f) s_f c_f), (Iv (findI pr_f L_xs)), (Bo (icmp .geq (findI pr_f L_xs) 0))]) rfl rfl (does_assign (u := (Bo (icmp .geq (findI pr_f L_xs) 0))) (ev rfl)) rfl ?_
  refine wpList_nil (hK2 _ _ ?_)
  refine wp_ret ?_
  refine ret_val (v := (Bo (icmp .geq (findI pr_f L_xs) 0))) (res_T rfl (slot rfl)) X5 ?_
  have x6 : (L_xs.any pr_f) = (icmp .geq (findI pr_f L_xs) 0) := by first | with_reducible rfl | (simp only [findI_any]; done) | (simp [findI_any]; done) | rfl
  exact (by first | rfl | rw [x6])

/- impl.IsFinite -/
theorem c_impl_IsFinite (x : Nat) (w : World) : Gives Try.prog 60 #[(Fl x)] w (fun v w' => v = (Bo (finF (cf .f32 x)))) := by
  refine enter [(Fl x), Ud, Ud, Ud, Ud, Ud, Ud] Try.func60 rfl Try.ntmps60 rfl ?_
  refine wp_seq_k fun K1 hK1 => ?_
  refine wp_region_lit ?_
  refine q_is (l' := [(Fl x), Ud, (Bo false), Ud, Ud, Ud, Ud]) rfl rfl (does_assign (u := (Bo false)) (ev rfl)) rfl ?_
  refine wpList_nil (hK1 _ _ ?_)
  refine wp_seq_k fun K2 hK2 => ?_
  refine wp_region_lit ?_
  refine q_is (l' := [(Fl x), Ud, (Bo false), (Fl x), Ud, Ud, Ud]) rfl rfl (does_move (u := (Fl x)) (ev rfl)) rfl ?_
  refine q_is (l' := [(Fl x), Ud, (Bo false), (Fl x), (Fl x), Ud, Ud]) rfl rfl (does_move (u := (Fl x)) (ev rfl)) rfl ?_
  refine seqd rfl rfl (does_float (.inr (.inl rfl)) (ev rfl) (ev rfl)) ?_; rintro _ w6 ⟨r3, rfl, h4, E5⟩
  have X7 := Ext.gr (Ext.refl w) E5
  show wpList _ _ _ _ (fr [(Fl x), Ud, (Bo false), (Fl x), (Fl x), (Fl r3), Ud]) _
  refine q_is (l' := [(Fl x), Ud, (Bo false), (Fl x), (Fl x), (Fl r3), (Bo (fcmp .eql (ford .f32 (cf .f32 r3) (cf .f32 0))))]) rfl rfl (does_fcmp (.inl rfl) (ev rfl) (ev rfl)) rfl ?_
  refine q_is (l' := [(Fl x), Ud, (Bo (fcmp .eql (ford .f32 (cf .f32 r3) (cf .f32 0)))), (Fl x), (Fl x), (Fl r3), (Bo (fcmp .eql (ford .f32 (cf .f32 r3) (cf .f32 0))))]) rfl rfl (does_assign (u := (Bo (fcmp .eql (ford .f32 (cf .f32 r3) (cf .f32 0))))) (ev rfl)) rfl ?_
  refine wpList_nil (hK2 _ _ ?_)
  refine wp_ret ?_
  refine ret_val (v := (Bo (fcmp .eql (ford .f32 (cf .f32 r3) (cf .f32 0))))) (res_T rfl (slot rfl)) X7 ?_
  have x8 : (finF (cf .f32 x)) = (fcmp .eql (ford .f32 (cf .f32 r3) (cf .f32 0))) := by first | with_reducible rfl | (simp only [finF, h4]; done) | (simp [finF, h4]; done) | rfl
  exact (by first | rfl | rw [x8])

/- impl.finite$1 -/
theorem c_impl_finite_1 (x : Nat) (w : World) : Gives Try.prog 62 #[(Fl x)] w (fun v w' => v = (Bo (!finF (cf .f32 x)))) := by
  refine enter [(Fl x), Ud, Ud, Ud, Ud, Ud] Try.func62 rfl Try.ntmps62 rfl ?_
  refine wp_seq_k fun K1 hK1 => ?_
  refine wp_region_lit ?_
  refine q_is (l' := [(Fl x), Ud, (Bo false), Ud, Ud, Ud]) rfl rfl (does_assign (u := (Bo false)) (ev rfl)) rfl ?_
  refine wpList_nil (hK1 _ _ ?_)
  refine wp_seq_k fun K2 hK2 => ?_
  refine wp_region_lit ?_
  refine q_is (l' := [(Fl x), Ud, (Bo false), (Fl x), Ud, Ud]) rfl rfl (does_move (u := (Fl x)) (ev rfl)) rfl ?_
  refine seqd rfl rfl (does_call (args := #[(Fl x)]) cal60 (evs rfl) (c_impl_IsFinite x _)) ?_; rintro _ w4 ⟨E3, rfl⟩
  have X5 := Ext.gr (Ext.refl w) E3
  show wpList _ _ _ _ (fr [(Fl x), Ud, (Bo false), (Fl x), (Bo (finF (cf .f32 x))), Ud]) _
  refine q_is (l' := [(Fl x), Ud, (Bo false), (Fl x), (Bo (finF (cf .f32 x))), (Bo (!(finF (cf .f32 x))))]) rfl rfl (does_not (ev rfl)) rfl ?_
  refine q_is (l' := [(Fl x), Ud, (Bo (!(finF (cf .f32 x)))), (Fl x), (Bo (finF (cf .f32 x))), (Bo (!(finF (cf .f32 x))))]) rfl rfl (does_assign (u := (Bo (!(finF (cf .f32 x))))) (ev rfl)) rfl ?_
  refine wpList_nil (hK2 _ _ ?_)
  refine wp_ret ?_
  refine ret_val (v := (Bo (!(finF (cf .f32 x))))) (res_T rfl (slot rfl)) X5 ?_
  have x6 : (!finF (cf .f32 x)) = (!(finF (cf .f32 x))) := by first | with_reducible rfl | (simp only []; done) | (simp []; done) | rfl
  exact (by first | rfl | rw [x6])

/- impl.finite -/
theorem c_impl_finite (xs : Value) (L_xs : List Nat) (w : World) (hv_xs : Sl RF 1 w xs L_xs) : Gives Try.prog 59 #[xs] w (fun v w' => v = (Bo (!L_xs.any (fun x => !finF x)))) := by
  have hlen_xs := Sl.len hv_xs; obtain ⟨p_xs, q_xs, rfl⟩ := Sl.shape hv_xs
  refine enter [(.slice p_xs L_xs.length q_xs), Ud, Ud, Ud, Ud, Ud] Try.func59 rfl Try.ntmps59 rfl ?_
  refine wp_seq_k fun K1 hK1 => ?_
  refine wp_region_lit ?_
  refine q_is (l' := [(.slice p_xs L_xs.length q_xs), Ud, (Bo false), Ud, Ud, Ud]) rfl rfl (does_assign (u := (Bo false)) (ev rfl)) rfl ?_
  refine wpList_nil (hK1 _ _ ?_)
  refine wp_seq_k fun K2 hK2 => ?_
  refine wp_region_lit ?_
  refine q_is (l' := [(.slice p_xs L_xs.length q_xs), Ud, (Bo false), (.slice p_xs L_xs.length q_xs), Ud, Ud]) rfl rfl (does_move (u := (.slice p_xs L_xs.length q_xs)) (ev rfl)) rfl ?_
  refine seqd rfl rfl (does_call (args := #[(.slice p_xs L_xs.length q_xs), (.func (.func 62) #[] #[])]) cal61 (evs rfl) (c_slices_ContainsFunc_float32_float32 (.slice p_xs L_xs.length q_xs) L_xs (.func (.func 62) #[] #[]) (fun x => !finF x) _ hv_xs ⟨62, #[], #[], rfl, cal62, fun r u hu' => by simpa using (c_impl_finite_1 r u)⟩)) ?_; rintro _ w4 ⟨E3, rfl⟩
  have X5 := Ext.gr (Ext.refl w) E3
  show wpList _ _ _ _ (fr [(.slice p_xs L_xs.length q_xs), Ud, (Bo false), (.slice p_xs L_xs.length q_xs), (Bo (L_xs.any (fun x => !finF x))), Ud]) _
  refine q_is (l' := [(.slice p_xs L_xs.length q_xs), Ud, (Bo false), (.slice p_xs L_xs.length q_xs), (Bo (L_xs.any (fun x => !finF x))), (Bo (!(L_xs.any (fun x => !finF x))))]) rfl rfl (does_not (ev rfl)) rfl ?_
  refine q_is (l' := [(.slice p_xs L_xs.length q_xs), Ud, (Bo (!(L_xs.any (fun x => !finF x)))), (.slice p_xs L_xs.length q_xs), (Bo (L_xs.any (fun x => !finF x))), (Bo (!(L_xs.any (fun x => !finF x))))]) rfl rfl (does_assign (u := (Bo (!(L_xs.any (fun x => !finF x))))) (ev rfl)) rfl ?_
  refine wpList_nil (hK2 _ _ ?_)
  refine wp_ret ?_
  refine ret_val (v := (Bo (!(L_xs.any (fun x => !finF x))))) (res_T rfl (slot rfl)) X5 ?_
  have x6 : (!L_xs.any (fun x => !finF x)) = (!(L_xs.any (fun x => !finF x))) := by first | with_reducible rfl | (simp only []; done) | (simp []; done) | rfl
  exact (by first | rfl | rw [x6])

/- impl.finiteVector -/
theorem c_impl_finiteVector (v : List Value) (A_v : V3) (w : World) (hv_v : RV3 w A_v v) : Gives Try.prog 50 #[(.agg v.toArray)] w (fun v w' => v = (Bo (finV A_v))) := by
  obtain ⟨r1, r3, r5, rfl, h2, h4, h6⟩ := hv_v
  refine enter [(.agg #[(Fl r1), (Fl r3), (Fl r5)]), Ud, Ud, Ud, Ud, Ud, Ud, Ud, Ud, Ud, Ud] Try.func50 rfl Try.ntmps50 rfl ?_
  refine wp_seq_k fun K7 hK7 => ?_
  refine wp_region_lit ?_
  refine seqd rfl rfl (does_box (u := (.agg #[(Fl r1), (Fl r3), (Fl r5)])) (ev rfl)) ?_; rintro _ w12 ⟨b8, rfl, hb9, hB10, E11⟩
  have g13 : w.heap.size ≤ b8 := Nat.le_trans (Below.size (Ext.refl w)) hb9
  change Blk _ _ [(Fl r1), (Fl r3), (Fl r5)] at hB10
  have X14 := Ext.gr (Ext.refl w) E11
  show wpList _ _ _ _ (fr [(.agg #[(Fl r1), (Fl r3), (Fl r5)]), (Pt b8 0), Ud, Ud, Ud, Ud, Ud, Ud, Ud, Ud, Ud]) _
  refine q_is (l' := [(.agg #[(Fl r1), (Fl r3), (Fl r5)]), (Pt b8 0), (Bo false), Ud, Ud, Ud, Ud, Ud, Ud, Ud, Ud]) rfl rfl (does_assign (u := (Bo false)) (ev rfl)) rfl ?_
  refine wpList_nil (hK7 _ _ ?_)
  refine wp_seq_k fun K15 hK15 => ?_
  refine wp_region_lit ?_
  refine q_is (l' := [(.agg #[(Fl r1), (Fl r3), (Fl r5)]), (Pt b8 0), (Bo false), (Pt b8 0), Ud, Ud, Ud, Ud, Ud, Ud, Ud]) rfl rfl (does_fieldAddr (ev rfl) fa29_0) rfl ?_
  refine q_is (l' := [(.agg #[(Fl r1), (Fl r3), (Fl r5)]), (Pt b8 0), (Bo false), (Pt b8 0), (Fl r1), Ud, Ud, Ud, Ud, Ud, Ud]) rfl rfl (does_load (u := (Fl r1)) (ev rfl) Try.isAgg22 (Cells.at (Blk.cells hB10) 0 rfl)) rfl ?_
  refine q_is (l' := [(.agg #[(Fl r1), (Fl r3), (Fl r5)]), (Pt b8 0), (Bo false), (Pt b8 0), (Fl r1), (Pt b8 1), Ud, Ud, Ud, Ud, Ud]) rfl rfl (does_fieldAddr (ev rfl) fa29_1) rfl ?_
  refine q_is (l' := [(.agg #[(Fl r1), (Fl r3), (Fl r5)]), (Pt b8 0), (Bo false), (Pt b8 0), (Fl r1), (Pt b8 1), (Fl r3), Ud, Ud, Ud, Ud]) rfl rfl (does_load (u := (Fl r3)) (ev rfl) Try.isAgg22 (Cells.at (Blk.cells hB10) 1 rfl)) rfl ?_
  refine q_is (l' := [(.agg #[(Fl r1), (Fl r3), (Fl r5)]), (Pt b8 0), (Bo false), (Pt b8 0), (Fl r1), (Pt b8 1), (Fl r3), (Pt b8 2), Ud, Ud, Ud]) rfl rfl (does_fieldAddr (ev rfl) fa29_2) rfl ?_
  refine q_is (l' := [(.agg #[(Fl r1), (Fl r3), (Fl r5)]), (Pt b8 0), (Bo false), (Pt b8 0), (Fl r1), (Pt b8 1), (Fl r3), (Pt b8 2), (Fl r5), Ud, Ud]) rfl rfl (does_load (u := (Fl r5)) (ev rfl) Try.isAgg22 (Cells.at (Blk.cells hB10) 2 rfl)) rfl ?_
  refine seqd rfl rfl (does_buildSlice (e := 22) (parts' := [(0, (Fl r1)), (1, (Fl r3)), (2, (Fl r5))]) (cells := [(Fl r1), (Fl r3), (Fl r5)]) (evp rfl) (fun _ => by kernel_rfl)) ?_; rintro _ w20 ⟨b16, rfl, hb17, hB18, E19⟩
  have n21 : b8 < b16 := Nat.lt_of_lt_of_le (Blk.lt hB10) hb17
  have g22 : w.heap.size ≤ b16 := Nat.le_trans (Below.size X14) hb17
  have X23 := Ext.gr X14 E19
  show wpList _ _ _ _ (fr [(.agg #[(Fl r1), (Fl r3), (Fl r5)]), (Pt b8 0), (Bo false), (Pt b8 0), (Fl r1), (Pt b8 1), (Fl r3), (Pt b8 2), (Fl r5), (.slice (some ⟨b16, 0, none⟩) 3 3), Ud]) _
  refine seqd rfl rfl (does_call (args := #[(.slice (some ⟨b16, 0, none⟩) 3 3)]) cal59 (evs rfl) (c_impl_finite (.slice (some ⟨b16, 0, none⟩) 3 3) [(cf .f32 r1), (cf .f32 r3), (cf .f32 r5)] _ (Sl_lit3 hB18 ⟨_, rfl, rfl⟩ ⟨_, rfl, rfl⟩ ⟨_, rfl, rfl⟩))) ?_; rintro _ w25 ⟨E24, rfl⟩
  have X26 := Ext.gr X23 E24
  show wpList _ _ _ _ (fr [(.agg #[(Fl r1), (Fl r3), (Fl r5)]), (Pt b8 0), (Bo false), (Pt b8 0), (Fl r1), (Pt b8 1), (Fl r3), (Pt b8 2), (Fl r5), (.slice (some ⟨b16, 0, none⟩) 3 3), (Bo (!([(cf .f32 r1), (cf .f32 r3), (cf .f32 r5)]).any (fun x => !finF x)))]) _
  refine q_is (l' := [(.agg #[(Fl r1), (Fl r3), (Fl r5)]), (Pt b8 0), (Bo (!([(cf .f32 r1), (cf .f32 r3), (cf .f32 r5)]).any (fun x => !finF x))), (Pt b8 0), (Fl r1), (Pt b8 1), (Fl r3), (Pt b8 2), (Fl r5), (.slice (some ⟨b16, 0, none⟩) 3 3), (Bo (!([(cf .f32 r1), (cf .f32 r3), (cf .f32 r5)]).any (fun x => !finF x)))]) rfl rfl (does_assign (u := (Bo (!([(cf .f32 r1), (cf .f32 r3), (cf .f32 r5)]).any (fun x => !finF x)))) (ev rfl)) rfl ?_
  refine wpList_nil (hK15 _ _ ?_)
  refine wp_ret ?_
  refine ret_val (v := (Bo (!([(cf .f32 r1), (cf .f32 r3), (cf .f32 r5)]).any (fun x => !finF x)))) (res_T rfl (slot rfl)) X26 ?_
  have x27 : (finV A_v) = (!([(cf .f32 r1), (cf .f32 r3), (cf .f32 r5)]).any (fun x => !finF x)) := by first | with_reducible rfl | (simp only [finV, any3_finF, h2, h4, h6]; done) | (simp [finV, any3_finF, h2, h4, h6]; done) | rfl
  exact (by first | rfl | rw [x27])

/- impl.stepOk -/
theorem c_impl_stepOk (x : Nat) (w : World) : Gives Try.prog 51 #[(Fl x)] w (fun v w' => v = (Bo (finF (cf .f32 x) && posF (cf .f32 x)))) := by
  refine enter [(Fl x), Ud, Ud, Ud, Ud, Ud, Ud, Ud, Ud] Try.func51 rfl Try.ntmps51 rfl ?_
  refine wp_seq_k fun K1 hK1 => ?_
  refine wp_region_lit ?_
  refine q_is (l' := [(Fl x), Ud, (Bo false), Ud, Ud, Ud, Ud, Ud, Ud]) rfl rfl (does_assign (u := (Bo false)) (ev rfl)) rfl ?_
  refine wpList_nil (hK1 _ _ ?_)
  refine wp_seq_k fun K2 hK2 => ?_
  obtain ⟨β1, hβ1⟩ : ∃ b : Bool, b = (fcmp .gtr (ford .f32 (cf .f32 x) (cf .f32 0))) := ⟨_, rfl⟩
  refine region_text (
    [Fact.pure [] (fun v => v = (Fl x)),
    Fact.pure [3] (fun v => v = (Bo (finF (cf .f32 x)))),
    Fact.pure [4] (fun v => v = (Bo (finF (cf .f32 x)))),
    Fact.pure [5] (fun v => (finF (cf .f32 x)) = true → v = (Fl x)),
    Fact.pure [6, 5] (fun v => (finF (cf .f32 x)) = true → v = (Bo β1)),
    Fact.pure [5, 7] (fun v => v = (Bo ((finF (cf .f32 x)) && β1)))]) (by simp [Fact.pure, Fact.mem]) ?_
  refine RW_d (fun v3 => [(Fl x), Ud, (Bo false), v3, Ud, Ud, Ud, Ud, Ud]) rfl (fun _ => rfl) (fun u hu hF => ?_) (fun v3 => ?_)
  · clear hF
    refine doesG_un rfl ?_
    refine (does_move (u := (Fl x)) (ev rfl)).mono ?_; rintro _ _ ⟨rfl, rfl⟩
    exact ⟨rfl, Ext.refl _⟩
  refine RW_d (fun v4 => [(Fl x), Ud, (Bo false), v3, v4, Ud, Ud, Ud, Ud]) rfl (fun _ => rfl) (fun u hu hF => ?_) (fun v4 => ?_)
  · have h3_ : v3 = (Fl x) := hF.1
    clear hF
    refine doesG_un rfl ?_
    obtain rfl := h3_
    refine (does_call (args := #[(Fl x)]) cal60 (evs rfl) (c_impl_IsFinite x _)).mono ?_; rintro v u' ⟨hx, hv⟩
    exact ⟨hv, hx⟩
  refine RW_d (fun v5 => [(Fl x), Ud, (Bo false), v3, v4, v5, Ud, Ud, Ud]) rfl (fun _ => rfl) (fun u hu hF => ?_) (fun v5 => ?_)
  · have h4_ : v4 = (Bo (finF (cf .f32 x))) := hF.1
    clear hF
    refine doesG_un rfl ?_
    obtain rfl := h4_
    refine (does_move (u := (Bo (finF (cf .f32 x)))) (ev rfl)).mono ?_; rintro _ _ ⟨rfl, rfl⟩
    exact ⟨rfl, Ext.refl _⟩
  refine RW_d (fun v6 => [(Fl x), Ud, (Bo false), v3, v4, v5, v6, Ud, Ud]) rfl (fun _ => rfl) (fun u hu hF => ?_) (fun v6 => ?_)
  · have h5_ : v5 = (Bo (finF (cf .f32 x))) := hF.1
    clear hF
    obtain rfl := h5_
    refine doesG_g (b := (finF (cf .f32 x))) rfl (yld rfl rfl) (fun hg1 => ?_) (fun hc => ⟨fun hg1 => absurd hg1 hc, Ext.refl _⟩)
    refine (does_move (u := (Fl x)) (ev rfl)).mono ?_; rintro _ _ ⟨rfl, rfl⟩
    exact ⟨fun _ => rfl, Ext.refl _⟩
  refine RW_d (fun v7 => [(Fl x), Ud, (Bo false), v3, v4, v5, v6, v7, Ud]) rfl (fun _ => rfl) (fun u hu hF => ?_) (fun v7 => ?_)
  · have h6_ : (finF (cf .f32 x)) = true → v6 = (Fl x) := hF.1
    have h5_ : v5 = (Bo (finF (cf .f32 x))) := hF.2.1
    clear hF
    obtain rfl := h5_
    refine doesG_g (b := (finF (cf .f32 x))) rfl (yld rfl rfl) (fun hg1 => ?_) (fun hc => ⟨fun hg1 => absurd hg1 hc, Ext.refl _⟩)
    obtain rfl := h6_ hg1
    refine (does_fcmp (.inr (.inr (.inr (.inr (.inl rfl))))) (ev rfl) (ev rfl)).mono ?_; rintro _ _ ⟨rfl, rfl⟩
    exact ⟨fun _ => (by first | rfl | (show _ = _; simp only [hβ1])), Ext.refl _⟩
  refine RW_d (fun v8 => [(Fl x), Ud, (Bo false), v3, v4, v5, v6, v7, v8]) rfl (fun _ => rfl) (fun u hu hF => ?_) (fun v8 => ?_)
  · have h5_ : v5 = (Bo (finF (cf .f32 x))) := hF.1
    have h7_ : (finF (cf .f32 x)) = true → v7 = (Bo β1) := hF.2.1
    clear hF
    refine doesG_un rfl ?_
    skip
    obtain rfl := h5_
    refine (does_pick (b := (finF (cf .f32 x))) (ev rfl) (ev rfl) (ev rfl)).mono ?_; rintro _ _ ⟨rfl, rfl⟩; refine ⟨?_, Ext.refl _⟩; skip
    cases hbb : (finF (cf .f32 x)) <;> simp [hbb] at h7_ ⊢
    all_goals (first | rfl | (subst h7_; rfl) | simp_all)
  refine RW_fin ?_; intro w9 E10 hP11
  obtain ⟨⟨⟨⟨⟨⟨-, -⟩, -⟩, -⟩, -⟩, -⟩, q12⟩ := hP11
  have X13 := Ext.gr (Ext.refl w) E10
  have q12 : v8 = (Bo ((finF (cf .f32 x)) && β1)) := q12
  obtain rfl := q12
  show wpList _ _ _ _ (fr [(Fl x), Ud, (Bo false), v3, v4, v5, v6, v7, (Bo ((finF (cf .f32 x)) && β1))]) _
  refine q_is (l' := [(Fl x), Ud, (Bo ((finF (cf .f32 x)) && β1)), v3, v4, v5, v6, v7, (Bo ((finF (cf .f32 x)) && β1))]) rfl rfl (does_assign (u := (Bo ((finF (cf .f32 x)) && β1))) (ev rfl)) rfl ?_
  refine wpList_nil (hK2 _ _ ?_)
  refine wp_ret ?_
  refine ret_val (v := (Bo ((finF (cf .f32 x)) && β1))) (res_T rfl (slot rfl)) X13 ?_
  have x14 : (finF (cf .f32 x) && posF (cf .f32 x)) = ((finF (cf .f32 x)) && β1) := by first | with_reducible rfl | (simp only [posF, hβ1]; done) | (simp [posF, hβ1]; done) | rfl
  exact (by first | rfl | rw [x14])

end Go.Proofs.Ytffmjlalacnfiaa
