/- contracts of functions, each walked once -/
import Derived.Test.YtiagimgdjngnfaaV
namespace Go.Proofs.Ytiagimgdjngnfaa
open Go Go.RowKit
set_option maxRecDepth 100000
set_option maxHeartbeats 3200000
set_option linter.unusedVariables false
set_option linter.unusedSimpArgs false

/- spec.l01Long -/
theorem c_spec_l01Long (v : List Value) (A_v : V3) (w : World) (hv_v : RV3 w A_v v) : Gives Try.prog 114 #[(.agg v.toArray)] w (fun v w' => ∃ r_1 : Nat, v = (Fl r_1) ∧ cf .f32 r_1 = longF A_v) := by
  obtain ⟨r1, r3, r5, rfl, h2, h4, h6⟩ := hv_v
  refine enter [(.agg #[(Fl r1), (Fl r3), (Fl r5)]), Ud, Ud, Ud, Ud, Ud, Ud] Try.func114 rfl Try.ntmps114 rfl ?_
  refine wp_seq_k fun K7 hK7 => ?_
  refine wp_region_lit ?_
  refine seqd rfl rfl (does_box (u := (.agg #[(Fl r1), (Fl r3), (Fl r5)])) (ev rfl)) ?_; rintro _ w12 ⟨b8, rfl, hb9, hB10, E11⟩
  have g13 : w.heap.size ≤ b8 := Nat.le_trans (Below.size (Ext.refl w)) hb9
  change Blk _ _ [(Fl r1), (Fl r3), (Fl r5)] at hB10
  have X14 := Ext.gr (Ext.refl w) E11
  show wpList _ _ _ _ (fr [(.agg #[(Fl r1), (Fl r3), (Fl r5)]), (Pt b8 0), Ud, Ud, Ud, Ud, Ud]) _
  refine q_is (l' := [(.agg #[(Fl r1), (Fl r3), (Fl r5)]), (Pt b8 0), (Fl 0), Ud, Ud, Ud, Ud]) rfl rfl (does_assign (u := (Fl 0)) (ev rfl)) rfl ?_
  refine wpList_nil (hK7 _ _ ?_)
  refine wp_seq_k fun K15 hK15 => ?_
  refine wp_region_lit ?_
  refine q_is (l' := [(.agg #[(Fl r1), (Fl r3), (Fl r5)]), (Pt b8 0), (Fl 0), (.agg #[(Fl r1), (Fl r3), (Fl r5)]), Ud, Ud, Ud]) rfl rfl (does_loadAgg (cs := [(Fl r1), (Fl r3), (Fl r5)]) (ev rfl) Try.isAgg40 Try.sizeOf40 (Blk.cells hB10) rfl) rfl ?_
  refine q_is (l' := [(.agg #[(Fl r1), (Fl r3), (Fl r5)]), (Pt b8 0), (Fl 0), (.agg #[(Fl r1), (Fl r3), (Fl r5)]), (.agg #[(Fl r1), (Fl r3), (Fl r5)]), Ud, Ud]) rfl rfl (does_loadAgg (cs := [(Fl r1), (Fl r3), (Fl r5)]) (ev rfl) Try.isAgg40 Try.sizeOf40 (Blk.cells hB10) rfl) rfl ?_
  refine seqd rfl rfl (does_call (args := #[(.agg #[(Fl r1), (Fl r3), (Fl r5)]), (.agg #[(Fl r1), (Fl r3), (Fl r5)])]) cal118 (evs rfl) (c_spec_l01Inner [(Fl r1), (Fl r3), (Fl r5)] A_v [(Fl r1), (Fl r3), (Fl r5)] A_v _ ⟨r1, r3, r5, rfl, h2, h4, h6⟩ ⟨r1, r3, r5, rfl, h2, h4, h6⟩)) ?_; rintro _ w17 ⟨E16, ⟨r18, rfl, h19⟩⟩
  have X20 := Ext.gr X14 E16
  show wpList _ _ _ _ (fr [(.agg #[(Fl r1), (Fl r3), (Fl r5)]), (Pt b8 0), (Fl 0), (.agg #[(Fl r1), (Fl r3), (Fl r5)]), (.agg #[(Fl r1), (Fl r3), (Fl r5)]), (Fl r18), Ud]) _
  refine seqd rfl rfl (does_call (args := #[(Fl r18)]) cal117 (evs rfl) (c_spec_l01Sqrt r18 _)) ?_; rintro _ w22 ⟨E21, ⟨r23, rfl, h24⟩⟩
  have X25 := Ext.gr X20 E21
  show wpList _ _ _ _ (fr [(.agg #[(Fl r1), (Fl r3), (Fl r5)]), (Pt b8 0), (Fl 0), (.agg #[(Fl r1), (Fl r3), (Fl r5)]), (.agg #[(Fl r1), (Fl r3), (Fl r5)]), (Fl r18), (Fl r23)]) _
  refine q_is (l' := [(.agg #[(Fl r1), (Fl r3), (Fl r5)]), (Pt b8 0), (Fl r23), (.agg #[(Fl r1), (Fl r3), (Fl r5)]), (.agg #[(Fl r1), (Fl r3), (Fl r5)]), (Fl r18), (Fl r23)]) rfl rfl (does_assign (u := (Fl r23)) (ev rfl)) rfl ?_
  refine wpList_nil (hK15 _ _ ?_)
  refine wp_ret ?_
  refine ret_val (v := (Fl r23)) (res_T rfl (slot rfl)) X25 ?_
  have x26 : cf .f32 r23 = longF A_v := by first | with_reducible rfl | (simp only [longF, h2, h4, h6, h19, h24]; done) | (simp [longF, h2, h4, h6, h19, h24]; done) | rfl
  exact ⟨r23, rfl, x26⟩

/- spec.l03Unit -/
theorem c_spec_l03Unit (v : List Value) (A_v : V3) (w : World) (hv_v : RV3 w A_v v) : Gives Try.prog 110 #[(.agg v.toArray)] w (fun v w' => ∃ cs_1 : List Value, v = (.agg cs_1.toArray) ∧ RV3 w (unitF A_v) cs_1) := by
  obtain ⟨r1, r3, r5, rfl, h2, h4, h6⟩ := hv_v
  refine enter [(.agg #[(Fl r1), (Fl r3), (Fl r5)]), Ud, Ud, Ud, Ud, Ud, Ud, Ud, Ud, Ud, Ud, Ud, Ud, Ud, Ud, Ud, Ud, Ud, Ud, Ud, Ud, Ud, Ud, Ud, Ud] Try.func110 rfl Try.ntmps110 rfl ?_
  refine wp_seq_k fun K7 hK7 => ?_
  refine wp_region_lit ?_
  refine seqd rfl rfl (does_box (u := (.agg #[(Fl r1), (Fl r3), (Fl r5)])) (ev rfl)) ?_; rintro _ w12 ⟨b8, rfl, hb9, hB10, E11⟩
  have g13 : w.heap.size ≤ b8 := Nat.le_trans (Below.size (Ext.refl w)) hb9
  change Blk _ _ [(Fl r1), (Fl r3), (Fl r5)] at hB10
  have X14 := Ext.gr (Ext.refl w) E11
  show wpList _ _ _ _ (fr [_, _, _, _, _, _, _, _, _, _, _, _, _, _, _, _, _, _, _, _, _, _, _, _, _]) _
  refine seqd rfl rfl (does_alloc z40) ?_; rintro _ w19 ⟨b15, rfl, hb16, hB17, E18⟩
  have n20 : b8 < b15 := Nat.lt_of_lt_of_le (Blk.lt hB10) hb16
  have g21 : w.heap.size ≤ b15 := Nat.le_trans (Below.size X14) hb16
  change Blk _ _ [(Fl 0), (Fl 0), (Fl 0)] at hB17
  have X22 := Ext.gr X14 E18
  show wpList _ _ _ _ (fr [_, _, _, _, _, _, _, _, _, _, _, _, _, _, _, _, _, _, _, _, _, _, _, _, _]) _
  refine wpList_nil (hK7 _ _ ?_)
  refine wp_seq_k fun K23 hK23 => ?_
  refine wp_region_lit ?_
  refine q_is rfl rfl (does_loadAgg (cs := [(Fl r1), (Fl r3), (Fl r5)]) (ev rfl) Try.isAgg40 Try.sizeOf40 (Blk.cells (hB10.ext E18)) rfl) (by dsimp only [List.set]; try rfl) ?_
  refine seqd rfl rfl (does_call (args := #[(.agg #[(Fl r1), (Fl r3), (Fl r5)])]) cal114 (evs rfl) (c_spec_l01Long [(Fl r1), (Fl r3), (Fl r5)] A_v _ ⟨r1, r3, r5, rfl, h2, h4, h6⟩)) ?_; rintro _ w25 ⟨E24, ⟨r26, rfl, h27⟩⟩
  have X28 := Ext.gr X22 E24
  show wpList _ _ _ _ (fr [_, _, _, _, _, _, _, _, _, _, _, _, _, _, _, _, _, _, _, _, _, _, _, _, _]) _
  refine q_is rfl rfl (does_assign (u := (Fl r26)) (ev rfl)) (by dsimp only [List.set]; try rfl) ?_
  refine wpList_nil (hK23 _ _ ?_)
  refine wp_seq_k fun K29 hK29 => ?_
  refine wp_region_lit ?_
  refine q_is rfl rfl (does_move (u := (Fl r26)) (ev rfl)) (by dsimp only [List.set]; try rfl) ?_
  refine seqd rfl rfl (does_float (.inr (.inr (.inr rfl))) (ev rfl) (ev rfl)) ?_; rintro _ w33 ⟨r30, rfl, h31, E32⟩
  have X34 := Ext.gr X28 E32
  show wpList _ _ _ _ (fr [_, _, _, _, _, _, _, _, _, _, _, _, _, _, _, _, _, _, _, _, _, _, _, _, _]) _
  refine q_is rfl rfl (does_assign (u := (Fl r30)) (ev rfl)) (by dsimp only [List.set]; try rfl) ?_
  refine wpList_nil (hK29 _ _ ?_)
  refine wp_seq_k fun K35 hK35 => ?_
  refine wp_seq_k fun K36 hK36 => ?_
  obtain ⟨β1, hβ1⟩ : ∃ b : Bool, b = (fcmp .eql (ford .f32 (cf .f32 r26) (cf .f32 0))) := ⟨_, rfl⟩
  obtain ⟨β2, hβ2⟩ : ∃ b : Bool, b = (β1 || (!(finF (cf .f32 r26)))) := ⟨_, rfl⟩
  obtain ⟨β3, hβ3⟩ : ∃ b : Bool, b = (β2 || (!(finF (cf .f32 r30)))) := ⟨_, rfl⟩
  refine region_text (
    [Fact.pure [] (fun v => v = (Fl r26)),
    Fact.pure [9] (fun v => v = (Bo β1)),
    Fact.pure [10] (fun v => v = (Bo β1)),
    Fact.pure [11] (fun v => β1 = false → v = (Fl r26)),
    Fact.pure [12, 11] (fun v => β1 = false → v = (Bo (finF (cf .f32 r26)))),
    Fact.pure [13, 11] (fun v => β1 = false → v = (Bo (!(finF (cf .f32 r26))))),
    Fact.pure [11, 14] (fun v => v = (Bo β2)),
    Fact.pure [15] (fun v => v = (Bo β2)),
    Fact.pure [16] (fun v => β2 = false → v = (Fl r30)),
    Fact.pure [17, 16] (fun v => β2 = false → v = (Bo (finF (cf .f32 r30)))),
    Fact.pure [18, 16] (fun v => β2 = false → v = (Bo (!(finF (cf .f32 r30))))),
    Fact.pure [16, 19] (fun v => v = (Bo β3))]) (by simp [Fact.pure, Fact.mem]) ?_
  refine RW_d _ rfl (fun v => by dsimp only [List.set]; try rfl) (fun u hu hF => ?_) (fun v37 => ?_)
  · clear hF
    refine doesG_un rfl ?_
    refine (does_move (u := (Fl r26)) (ev rfl)).mono ?_; rintro _ _ ⟨rfl, rfl⟩
    exact ⟨rfl, Ext.refl _⟩
  refine RW_d _ rfl (fun v => by dsimp only [List.set]; try rfl) (fun u hu hF => ?_) (fun v38 => ?_)
  · have h9_ : v37 = (Fl r26) := hF.1
    clear hF
    refine doesG_un rfl ?_
    obtain rfl := h9_
    refine (does_fcmp (.inl rfl) (ev rfl) (ev rfl)).mono ?_; rintro _ _ ⟨rfl, rfl⟩
    exact ⟨(by first | rfl | (show _ = _; simp only [hβ1]; done) | (show _ = _; simp only [hβ1]; rfl)), Ext.refl _⟩
  refine RW_d _ rfl (fun v => by dsimp only [List.set]; try rfl) (fun u hu hF => ?_) (fun v39 => ?_)
  · have h10_ : v38 = (Bo β1) := hF.1
    clear hF
    refine doesG_un rfl ?_
    obtain rfl := h10_
    refine (does_move (u := (Bo β1)) (ev rfl)).mono ?_; rintro _ _ ⟨rfl, rfl⟩
    exact ⟨rfl, Ext.refl _⟩
  refine RW_d _ rfl (fun v => by dsimp only [List.set]; try rfl) (fun u hu hF => ?_) (fun v40 => ?_)
  · have h11_ : v39 = (Bo β1) := hF.1
    clear hF
    obtain rfl := h11_
    refine doesG_g (b := β1) rfl (yld rfl rfl) (fun hg1 => ?_) (fun hc => ⟨fun hg1 => absurd hg1 hc, Ext.refl _⟩)
    refine (does_move (u := (Fl r26)) (ev rfl)).mono ?_; rintro _ _ ⟨rfl, rfl⟩
    exact ⟨fun _ => rfl, Ext.refl _⟩
  refine RW_d _ rfl (fun v => by dsimp only [List.set]; try rfl) (fun u hu hF => ?_) (fun v41 => ?_)
  · have h12_ : β1 = false → v40 = (Fl r26) := hF.1
    have h11_ : v39 = (Bo β1) := hF.2.1
    clear hF
    obtain rfl := h11_
    refine doesG_g (b := β1) rfl (yld rfl rfl) (fun hg1 => ?_) (fun hc => ⟨fun hg1 => absurd hg1 hc, Ext.refl _⟩)
    obtain rfl := h12_ hg1
    refine (does_call (args := #[(Fl r26)]) cal96 (evs rfl) (c_spec_l01Finite r26 _)).mono ?_; rintro v u' ⟨hx, hv⟩
    exact ⟨fun _ => hv, hx⟩
  refine RW_d _ rfl (fun v => by dsimp only [List.set]; try rfl) (fun u hu hF => ?_) (fun v42 => ?_)
  · have h13_ : β1 = false → v41 = (Bo (finF (cf .f32 r26))) := hF.1
    have h11_ : v39 = (Bo β1) := hF.2.1
    clear hF
    obtain rfl := h11_
    refine doesG_g (b := β1) rfl (yld rfl rfl) (fun hg1 => ?_) (fun hc => ⟨fun hg1 => absurd hg1 hc, Ext.refl _⟩)
    obtain rfl := h13_ hg1
    refine (does_not (ev rfl)).mono ?_; rintro _ _ ⟨rfl, rfl⟩
    exact ⟨fun _ => rfl, Ext.refl _⟩
  refine RW_d _ rfl (fun v => by dsimp only [List.set]; try rfl) (fun u hu hF => ?_) (fun v43 => ?_)
  · have h11_ : v39 = (Bo β1) := hF.1
    have h14_ : β1 = false → v42 = (Bo (!(finF (cf .f32 r26)))) := hF.2.1
    clear hF
    refine doesG_un rfl ?_
    skip
    obtain rfl := h11_
    refine (does_pick (b := β1) (u := (Bo true)) (v := v42) (ev rfl) (ev rfl) (ev rfl)).mono ?_; rintro _ _ ⟨rfl, rfl⟩; refine ⟨?_, Ext.refl _⟩; rw [hβ2]; skip
    cases hbb : β1
    all_goals first | (show _ = _; simp only [↓reduceIte, Bool.true_and, Bool.false_and, Bool.true_or, Bool.false_or, Bool.false_eq_true]; done) | (have e_ := h14_ hbb; subst e_; show _ = _; simp only [↓reduceIte, Bool.true_and, Bool.false_and, Bool.true_or, Bool.false_or, Bool.false_eq_true]; done) | rfl | (have e_ := h14_ hbb; subst e_; rfl) | (simp [hbb] at h14_ ⊢; first | done | rfl | (subst h14_; rfl) | simp_all) | (simp [hbb] at h14_ ⊢; done)
  refine RW_d _ rfl (fun v => by dsimp only [List.set]; try rfl) (fun u hu hF => ?_) (fun v44 => ?_)
  · have h15_ : v43 = (Bo β2) := hF.1
    clear hF
    refine doesG_un rfl ?_
    obtain rfl := h15_
    refine (does_move (u := (Bo β2)) (ev rfl)).mono ?_; rintro _ _ ⟨rfl, rfl⟩
    exact ⟨rfl, Ext.refl _⟩
  refine RW_d _ rfl (fun v => by dsimp only [List.set]; try rfl) (fun u hu hF => ?_) (fun v45 => ?_)
  · have h16_ : v44 = (Bo β2) := hF.1
    clear hF
    obtain rfl := h16_
    refine doesG_g (b := β2) rfl (yld rfl rfl) (fun hg1 => ?_) (fun hc => ⟨fun hg1 => absurd hg1 hc, Ext.refl _⟩)
    refine (does_move (u := (Fl r30)) (ev rfl)).mono ?_; rintro _ _ ⟨rfl, rfl⟩
    exact ⟨fun _ => rfl, Ext.refl _⟩
  refine RW_d _ rfl (fun v => by dsimp only [List.set]; try rfl) (fun u hu hF => ?_) (fun v46 => ?_)
  · have h17_ : β2 = false → v45 = (Fl r30) := hF.1
    have h16_ : v44 = (Bo β2) := hF.2.1
    clear hF
    obtain rfl := h16_
    refine doesG_g (b := β2) rfl (yld rfl rfl) (fun hg1 => ?_) (fun hc => ⟨fun hg1 => absurd hg1 hc, Ext.refl _⟩)
    obtain rfl := h17_ hg1
    refine (does_call (args := #[(Fl r30)]) cal96 (evs rfl) (c_spec_l01Finite r30 _)).mono ?_; rintro v u' ⟨hx, hv⟩
    exact ⟨fun _ => hv, hx⟩
  refine RW_d _ rfl (fun v => by dsimp only [List.set]; try rfl) (fun u hu hF => ?_) (fun v47 => ?_)
  · have h18_ : β2 = false → v46 = (Bo (finF (cf .f32 r30))) := hF.1
    have h16_ : v44 = (Bo β2) := hF.2.1
    clear hF
    obtain rfl := h16_
    refine doesG_g (b := β2) rfl (yld rfl rfl) (fun hg1 => ?_) (fun hc => ⟨fun hg1 => absurd hg1 hc, Ext.refl _⟩)
    obtain rfl := h18_ hg1
    refine (does_not (ev rfl)).mono ?_; rintro _ _ ⟨rfl, rfl⟩
    exact ⟨fun _ => rfl, Ext.refl _⟩
  refine RW_d _ rfl (fun v => by dsimp only [List.set]; try rfl) (fun u hu hF => ?_) (fun v48 => ?_)
  · have h16_ : v44 = (Bo β2) := hF.1
    have h19_ : β2 = false → v47 = (Bo (!(finF (cf .f32 r30)))) := hF.2.1
    clear hF
    refine doesG_un rfl ?_
    skip
    obtain rfl := h16_
    refine (does_pick (b := β2) (u := (Bo true)) (v := v47) (ev rfl) (ev rfl) (ev rfl)).mono ?_; rintro _ _ ⟨rfl, rfl⟩; refine ⟨?_, Ext.refl _⟩; rw [hβ3]; skip
    cases hbb : β2
    all_goals first | (show _ = _; simp only [↓reduceIte, Bool.true_and, Bool.false_and, Bool.true_or, Bool.false_or, Bool.false_eq_true]; done) | (have e_ := h19_ hbb; subst e_; show _ = _; simp only [↓reduceIte, Bool.true_and, Bool.false_and, Bool.true_or, Bool.false_or, Bool.false_eq_true]; done) | rfl | (have e_ := h19_ hbb; subst e_; rfl) | (simp [hbb] at h19_ ⊢; first | done | rfl | (subst h19_; rfl) | simp_all) | (simp [hbb] at h19_ ⊢; done)
  refine RW_fin ?_; intro w49 E50 hP51
  obtain ⟨⟨⟨⟨⟨⟨⟨⟨⟨⟨⟨⟨-, -⟩, -⟩, -⟩, -⟩, -⟩, -⟩, -⟩, -⟩, -⟩, -⟩, -⟩, q52⟩ := hP51
  have X53 := Ext.gr X34 E50
  have q52 : v48 = (Bo β3) := q52
  obtain rfl := q52
  show wpList _ _ _ _ (fr [_, _, _, _, _, _, _, _, _, _, _, _, _, _, _, _, _, _, _, _, _, _, _, _, _]) _
  refine wpList_nil (hK36 _ _ ?_)
  refine wp_cond_split (t := β3) (ev rfl) (fun c54 => ?_) (fun c54 => ?_)
  · have c54' := c54
    (try simp only [hβ1, hβ2, hβ3, any2_finF] at c54')
    (try simp only [hβ1, hβ2, hβ3] at c54')
    (try simp only [icmp, Bool.and_eq_true, Bool.or_eq_true, Bool.and_eq_false_iff, Bool.or_eq_false_iff, Bool.not_eq_true', Bool.not_eq_false', decide_eq_true_eq, decide_eq_false_iff_not, beq_iff_eq, bne_iff_ne, beq_eq_false_iff_ne, bne_eq_false_iff_eq] at c54')
    refine wp_seq_k fun K55 hK55 => ?_
    refine wp_region_lit ?_
    refine q_is rfl rfl (does_build (parts' := []) (cells := #[(Fl 0), (Fl 0), (Fl 0)]) (evp rfl) (by kernel_rfl)) (by dsimp only [List.set]; try rfl) ?_
    refine seqn rfl rfl (does_store (n := 3) (cs := [(Fl 0), (Fl 0), (Fl 0)]) (u := (.agg #[(Fl 0), (Fl 0), (Fl 0)])) (ev rfl) (ev rfl) Try.sizeOf40 rfl (((hB17.ext E24).ext E32).ext E50) (Nat.le_of_ble_eq_true rfl) rfl) ?_; rintro _ w58 ⟨rfl, W56, hB57⟩
    change Blk _ _ [(Fl 0), (Fl 0), (Fl 0)] at hB57
    have X59 := Below.wr X53 W56 g21
    refine wpList_nil (hK55 _ _ ?_)
    refine wp_ret ?_
    dsimp only [Exit.then, Exit.inBlock]
    refine ret_val (v := (.agg #[(Fl 0), (Fl 0), (Fl 0)])) (res_C rfl (slot rfl) (run_loadAgg (cs := [(Fl 0), (Fl 0), (Fl 0)]) Try.isAgg40 Try.sizeOf40 (Blk.cells hB57) rfl)) X59 ?_
    try simp only [h2, h4, h6, h27, h31, hβ1, hβ2, hβ3, any2_finF] at c54
    have x60 : cf .f32 0 = (unitF A_v).x := by first | (rw [unit_zero1 (by assumption)]; rfl) | (rw [unit_zero2 (by assumption)]; rfl) | (rw [unit_by1 (by assumption)]; simp only [vscale, h2, h4, h6, h27, h31, hβ1, hβ2, hβ3, c54]; done) | (rw [unit_by2 (by assumption)]; simp only [vscale, h2, h4, h6, h27, h31, hβ1, hβ2, hβ3, c54]; done)
    have x61 : cf .f32 0 = (unitF A_v).y := by first | (rw [unit_zero1 (by assumption)]; rfl) | (rw [unit_zero2 (by assumption)]; rfl) | (rw [unit_by1 (by assumption)]; simp only [vscale, h2, h4, h6, h27, h31, hβ1, hβ2, hβ3, c54]; done) | (rw [unit_by2 (by assumption)]; simp only [vscale, h2, h4, h6, h27, h31, hβ1, hβ2, hβ3, c54]; done)
    have x62 : cf .f32 0 = (unitF A_v).z := by first | (rw [unit_zero1 (by assumption)]; rfl) | (rw [unit_zero2 (by assumption)]; rfl) | (rw [unit_by1 (by assumption)]; simp only [vscale, h2, h4, h6, h27, h31, hβ1, hβ2, hβ3, c54]; done) | (rw [unit_by2 (by assumption)]; simp only [vscale, h2, h4, h6, h27, h31, hβ1, hβ2, hβ3, c54]; done)
    exact ⟨[(Fl 0), (Fl 0), (Fl 0)], rfl, ⟨0, 0, 0, rfl, x60, x61, x62⟩⟩
  have c54' := c54
  (try simp only [hβ1, hβ2, hβ3, any2_finF] at c54')
  (try simp only [hβ1, hβ2, hβ3] at c54')
  (try simp only [icmp, Bool.and_eq_true, Bool.or_eq_true, Bool.and_eq_false_iff, Bool.or_eq_false_iff, Bool.not_eq_true', Bool.not_eq_false', decide_eq_true_eq, decide_eq_false_iff_not, beq_iff_eq, bne_iff_ne, beq_eq_false_iff_ne, bne_eq_false_iff_eq] at c54')
  refine wp_skip (hK35 _ _ ?_)
  refine wp_seq_k fun K63 hK63 => ?_
  refine wp_region_lit ?_
  refine q_is rfl rfl (does_loadAgg (cs := [(Fl r1), (Fl r3), (Fl r5)]) (ev rfl) Try.isAgg40 Try.sizeOf40 (Blk.cells ((((hB10.ext E18).ext E24).ext E32).ext E50)) rfl) (by dsimp only [List.set]; try rfl) ?_
  refine q_is rfl rfl (does_move (u := (Fl r30)) (ev rfl)) (by dsimp only [List.set]; try rfl) ?_
  refine seqd rfl rfl (does_call (args := #[(.agg #[(Fl r1), (Fl r3), (Fl r5)]), (Fl r30)]) cal106 (evs rfl) (c_spec_l01Scale [(Fl r1), (Fl r3), (Fl r5)] A_v r30 _ ⟨r1, r3, r5, rfl, h2, h4, h6⟩)) ?_; rintro _ w65 ⟨E64, ⟨_, rfl, ⟨r66, r68, r70, rfl, h67, h69, h71⟩⟩⟩
  have X72 := Ext.gr X53 E64
  show wpList _ _ _ _ (fr [_, _, _, _, _, _, _, _, _, _, _, _, _, _, _, _, _, _, _, _, _, _, _, _, _]) _
  refine seqn rfl rfl (does_store (n := 3) (cs := [(Fl 0), (Fl 0), (Fl 0)]) (u := (.agg #[(Fl r66), (Fl r68), (Fl r70)])) (ev rfl) (ev rfl) Try.sizeOf40 rfl ((((hB17.ext E24).ext E32).ext E50).ext E64) (Nat.le_of_ble_eq_true rfl) rfl) ?_; rintro _ w75 ⟨rfl, W73, hB74⟩
  change Blk _ _ [(Fl r66), (Fl r68), (Fl r70)] at hB74
  have X76 := Below.wr X72 W73 g21
  refine wpList_nil (hK63 _ _ ?_)
  refine wp_ret ?_
  refine ret_val (v := (.agg #[(Fl r66), (Fl r68), (Fl r70)])) (res_C rfl (slot rfl) (run_loadAgg (cs := [(Fl r66), (Fl r68), (Fl r70)]) Try.isAgg40 Try.sizeOf40 (Blk.cells hB74) rfl)) X76 ?_
  try simp only [h2, h4, h6, h27, h31, hβ1, hβ2, hβ3, h67, h69, h71, any2_finF] at c54
  have x77 : cf .f32 r66 = (unitF A_v).x := by first | (rw [unit_zero1 (by assumption)]; rfl) | (rw [unit_zero2 (by assumption)]; rfl) | (rw [unit_by1 (by assumption)]; simp only [vscale, h2, h4, h6, h27, h31, hβ1, hβ2, hβ3, h67, h69, h71, c54]; done) | (rw [unit_by2 (by assumption)]; simp only [vscale, h2, h4, h6, h27, h31, hβ1, hβ2, hβ3, h67, h69, h71, c54]; done)
  have x78 : cf .f32 r68 = (unitF A_v).y := by first | (rw [unit_zero1 (by assumption)]; rfl) | (rw [unit_zero2 (by assumption)]; rfl) | (rw [unit_by1 (by assumption)]; simp only [vscale, h2, h4, h6, h27, h31, hβ1, hβ2, hβ3, h67, h69, h71, c54]; done) | (rw [unit_by2 (by assumption)]; simp only [vscale, h2, h4, h6, h27, h31, hβ1, hβ2, hβ3, h67, h69, h71, c54]; done)
  have x79 : cf .f32 r70 = (unitF A_v).z := by first | (rw [unit_zero1 (by assumption)]; rfl) | (rw [unit_zero2 (by assumption)]; rfl) | (rw [unit_by1 (by assumption)]; simp only [vscale, h2, h4, h6, h27, h31, hβ1, hβ2, hβ3, h67, h69, h71, c54]; done) | (rw [unit_by2 (by assumption)]; simp only [vscale, h2, h4, h6, h27, h31, hβ1, hβ2, hβ3, h67, h69, h71, c54]; done)
  exact ⟨[(Fl r66), (Fl r68), (Fl r70)], rfl, ⟨r66, r68, r70, rfl, x77, x78, x79⟩⟩

/- spec.l01Cross -/
theorem c_spec_l01Cross (a : List Value) (A_a : V3) (b : List Value) (A_b : V3) (w : World) (hv_a : RV3 w A_a a) (hv_b : RV3 w A_b b) : Gives Try.prog 111 #[(.agg a.toArray), (.agg b.toArray)] w (fun v w' => ∃ cs_1 : List Value, v = (.agg cs_1.toArray) ∧ RV3 w (crossF A_a A_b) cs_1) := by
  obtain ⟨r1, r3, r5, rfl, h2, h4, h6⟩ := hv_a
  obtain ⟨r7, r9, r11, rfl, h8, h10, h12⟩ := hv_b
  refine enter [(.agg #[(Fl r1), (Fl r3), (Fl r5)]), (.agg #[(Fl r7), (Fl r9), (Fl r11)]), Ud, Ud, Ud, Ud, Ud, Ud, Ud, Ud, Ud, Ud, Ud, Ud, Ud, Ud, Ud, Ud, Ud, Ud, Ud, Ud, Ud, Ud, Ud, Ud, Ud, Ud, Ud, Ud, Ud, Ud, Ud, Ud, Ud, Ud, Ud, Ud, Ud] Try.func111 rfl Try.ntmps111 rfl ?_
  refine wp_seq_k fun K13 hK13 => ?_
  refine wp_region_lit ?_
  refine seqd rfl rfl (does_box (u := (.agg #[(Fl r1), (Fl r3), (Fl r5)])) (ev rfl)) ?_; rintro _ w18 ⟨b14, rfl, hb15, hB16, E17⟩
  have g19 : w.heap.size ≤ b14 := Nat.le_trans (Below.size (Ext.refl w)) hb15
  change Blk _ _ [(Fl r1), (Fl r3), (Fl r5)] at hB16
  have X20 := Ext.gr (Ext.refl w) E17
  show wpList _ _ _ _ (fr [_, _, _, _, _, _, _, _, _, _, _, _, _, _, _, _, _, _, _, _, _, _, _, _, _, _, _, _, _, _, _, _, _, _, _, _, _, _, _]) _
  refine seqd rfl rfl (does_box (u := (.agg #[(Fl r7), (Fl r9), (Fl r11)])) (ev rfl)) ?_; rintro _ w25 ⟨b21, rfl, hb22, hB23, E24⟩
  have n26 : b14 < b21 := Nat.lt_of_lt_of_le (Blk.lt hB16) hb22
  have g27 : w.heap.size ≤ b21 := Nat.le_trans (Below.size X20) hb22
  change Blk _ _ [(Fl r7), (Fl r9), (Fl r11)] at hB23
  have X28 := Ext.gr X20 E24
  show wpList _ _ _ _ (fr [_, _, _, _, _, _, _, _, _, _, _, _, _, _, _, _, _, _, _, _, _, _, _, _, _, _, _, _, _, _, _, _, _, _, _, _, _, _, _]) _
  refine seqd rfl rfl (does_alloc z40) ?_; rintro _ w33 ⟨b29, rfl, hb30, hB31, E32⟩
  have n34 : b14 < b29 := Nat.lt_of_lt_of_le (Blk.lt (hB16.ext E24)) hb30
  have n35 : b21 < b29 := Nat.lt_of_lt_of_le (Blk.lt hB23) hb30
  have g36 : w.heap.size ≤ b29 := Nat.le_trans (Below.size X28) hb30
  change Blk _ _ [(Fl 0), (Fl 0), (Fl 0)] at hB31
  have X37 := Ext.gr X28 E32
  show wpList _ _ _ _ (fr [_, _, _, _, _, _, _, _, _, _, _, _, _, _, _, _, _, _, _, _, _, _, _, _, _, _, _, _, _, _, _, _, _, _, _, _, _, _, _]) _
  refine wpList_nil (hK13 _ _ ?_)
  refine wp_seq_k fun K38 hK38 => ?_
  refine wp_region_lit ?_
  refine q_is rfl rfl (does_fieldAddr (ev rfl) fa40_1) (by dsimp only [List.set]; try rfl) ?_
  refine q_is rfl rfl (does_load (u := (Fl r3)) (ev rfl) Try.isAgg38 (Cells.at (Blk.cells ((hB16.ext E24).ext E32)) 1 rfl)) (by dsimp only [List.set]; try rfl) ?_
  refine q_is rfl rfl (does_fieldAddr (ev rfl) fa40_2) (by dsimp only [List.set]; try rfl) ?_
  refine q_is rfl rfl (does_load (u := (Fl r11)) (ev rfl) Try.isAgg38 (Cells.at (Blk.cells (hB23.ext E32)) 2 rfl)) (by dsimp only [List.set]; try rfl) ?_
  refine seqd rfl rfl (does_float (.inr (.inr (.inl rfl))) (ev rfl) (ev rfl)) ?_; rintro _ w42 ⟨r39, rfl, h40, E41⟩
  have X43 := Ext.gr X37 E41
  show wpList _ _ _ _ (fr [_, _, _, _, _, _, _, _, _, _, _, _, _, _, _, _, _, _, _, _, _, _, _, _, _, _, _, _, _, _, _, _, _, _, _, _, _, _, _]) _
  refine q_is rfl rfl (does_fieldAddr (ev rfl) fa40_2) (by dsimp only [List.set]; try rfl) ?_
  refine q_is rfl rfl (does_load (u := (Fl r5)) (ev rfl) Try.isAgg38 (Cells.at (Blk.cells (((hB16.ext E24).ext E32).ext E41)) 2 rfl)) (by dsimp only [List.set]; try rfl) ?_
  refine q_is rfl rfl (does_fieldAddr (ev rfl) fa40_1) (by dsimp only [List.set]; try rfl) ?_
  refine q_is rfl rfl (does_load (u := (Fl r9)) (ev rfl) Try.isAgg38 (Cells.at (Blk.cells ((hB23.ext E32).ext E41)) 1 rfl)) (by dsimp only [List.set]; try rfl) ?_
  refine seqd rfl rfl (does_float (.inr (.inr (.inl rfl))) (ev rfl) (ev rfl)) ?_; rintro _ w47 ⟨r44, rfl, h45, E46⟩
  have X48 := Ext.gr X43 E46
  show wpList _ _ _ _ (fr [_, _, _, _, _, _, _, _, _, _, _, _, _, _, _, _, _, _, _, _, _, _, _, _, _, _, _, _, _, _, _, _, _, _, _, _, _, _, _]) _
  refine seqd rfl rfl (does_float (.inr (.inl rfl)) (ev rfl) (ev rfl)) ?_; rintro _ w52 ⟨r49, rfl, h50, E51⟩
  have X53 := Ext.gr X48 E51
  show wpList _ _ _ _ (fr [_, _, _, _, _, _, _, _, _, _, _, _, _, _, _, _, _, _, _, _, _, _, _, _, _, _, _, _, _, _, _, _, _, _, _, _, _, _, _]) _
  refine q_is rfl rfl (does_fieldAddr (ev rfl) fa40_2) (by dsimp only [List.set]; try rfl) ?_
  refine q_is rfl rfl (does_load (u := (Fl r5)) (ev rfl) Try.isAgg38 (Cells.at (Blk.cells (((((hB16.ext E24).ext E32).ext E41).ext E46).ext E51)) 2 rfl)) (by dsimp only [List.set]; try rfl) ?_
  refine q_is rfl rfl (does_fieldAddr (ev rfl) fa40_0) (by dsimp only [List.set]; try rfl) ?_
  refine q_is rfl rfl (does_load (u := (Fl r7)) (ev rfl) Try.isAgg38 (Cells.at (Blk.cells ((((hB23.ext E32).ext E41).ext E46).ext E51)) 0 rfl)) (by dsimp only [List.set]; try rfl) ?_
  refine seqd rfl rfl (does_float (.inr (.inr (.inl rfl))) (ev rfl) (ev rfl)) ?_; rintro _ w57 ⟨r54, rfl, h55, E56⟩
  have X58 := Ext.gr X53 E56
  show wpList _ _ _ _ (fr [_, _, _, _, _, _, _, _, _, _, _, _, _, _, _, _, _, _, _, _, _, _, _, _, _, _, _, _, _, _, _, _, _, _, _, _, _, _, _]) _
  refine q_is rfl rfl (does_fieldAddr (ev rfl) fa40_0) (by dsimp only [List.set]; try rfl) ?_
  refine q_is rfl rfl (does_load (u := (Fl r1)) (ev rfl) Try.isAgg38 (Cells.at (Blk.cells ((((((hB16.ext E24).ext E32).ext E41).ext E46).ext E51).ext E56)) 0 rfl)) (by dsimp only [List.set]; try rfl) ?_
  refine q_is rfl rfl (does_fieldAddr (ev rfl) fa40_2) (by dsimp only [List.set]; try rfl) ?_
  refine q_is rfl rfl (does_load (u := (Fl r11)) (ev rfl) Try.isAgg38 (Cells.at (Blk.cells (((((hB23.ext E32).ext E41).ext E46).ext E51).ext E56)) 2 rfl)) (by dsimp only [List.set]; try rfl) ?_
  refine seqd rfl rfl (does_float (.inr (.inr (.inl rfl))) (ev rfl) (ev rfl)) ?_; rintro _ w62 ⟨r59, rfl, h60, E61⟩
  have X63 := Ext.gr X58 E61
  show wpList _ _ _ _ (fr [_, _, _, _, _, _, _, _, _, _, _, _, _, _, _, _, _, _, _, _, _, _, _, _, _, _, _, _, _, _, _, _, _, _, _, _, _, _, _]) _
  refine seqd rfl rfl (does_float (.inr (.inl rfl)) (ev rfl) (ev rfl)) ?_; rintro _ w67 ⟨r64, rfl, h65, E66⟩
  have X68 := Ext.gr X63 E66
  show wpList _ _ _ _ (fr [_, _, _, _, _, _, _, _, _, _, _, _, _, _, _, _, _, _, _, _, _, _, _, _, _, _, _, _, _, _, _, _, _, _, _, _, _, _, _]) _
  refine q_is rfl rfl (does_fieldAddr (ev rfl) fa40_0) (by dsimp only [List.set]; try rfl) ?_
  refine q_is rfl rfl (does_load (u := (Fl r1)) (ev rfl) Try.isAgg38 (Cells.at (Blk.cells ((((((((hB16.ext E24).ext E32).ext E41).ext E46).ext E51).ext E56).ext E61).ext E66)) 0 rfl)) (by dsimp only [List.set]; try rfl) ?_
  refine q_is rfl rfl (does_fieldAddr (ev rfl) fa40_1) (by dsimp only [List.set]; try rfl) ?_
  refine q_is rfl rfl (does_load (u := (Fl r9)) (ev rfl) Try.isAgg38 (Cells.at (Blk.cells (((((((hB23.ext E32).ext E41).ext E46).ext E51).ext E56).ext E61).ext E66)) 1 rfl)) (by dsimp only [List.set]; try rfl) ?_
  refine seqd rfl rfl (does_float (.inr (.inr (.inl rfl))) (ev rfl) (ev rfl)) ?_; rintro _ w72 ⟨r69, rfl, h70, E71⟩
  have X73 := Ext.gr X68 E71
  show wpList _ _ _ _ (fr [_, _, _, _, _, _, _, _, _, _, _, _, _, _, _, _, _, _, _, _, _, _, _, _, _, _, _, _, _, _, _, _, _, _, _, _, _, _, _]) _
  refine q_is rfl rfl (does_fieldAddr (ev rfl) fa40_1) (by dsimp only [List.set]; try rfl) ?_
  refine q_is rfl rfl (does_load (u := (Fl r3)) (ev rfl) Try.isAgg38 (Cells.at (Blk.cells (((((((((hB16.ext E24).ext E32).ext E41).ext E46).ext E51).ext E56).ext E61).ext E66).ext E71)) 1 rfl)) (by dsimp only [List.set]; try rfl) ?_
  refine q_is rfl rfl (does_fieldAddr (ev rfl) fa40_0) (by dsimp only [List.set]; try rfl) ?_
  refine q_is rfl rfl (does_load (u := (Fl r7)) (ev rfl) Try.isAgg38 (Cells.at (Blk.cells ((((((((hB23.ext E32).ext E41).ext E46).ext E51).ext E56).ext E61).ext E66).ext E71)) 0 rfl)) (by dsimp only [List.set]; try rfl) ?_
  refine seqd rfl rfl (does_float (.inr (.inr (.inl rfl))) (ev rfl) (ev rfl)) ?_; rintro _ w77 ⟨r74, rfl, h75, E76⟩
  have X78 := Ext.gr X73 E76
  show wpList _ _ _ _ (fr [_, _, _, _, _, _, _, _, _, _, _, _, _, _, _, _, _, _, _, _, _, _, _, _, _, _, _, _, _, _, _, _, _, _, _, _, _, _, _]) _
  refine seqd rfl rfl (does_float (.inr (.inl rfl)) (ev rfl) (ev rfl)) ?_; rintro _ w82 ⟨r79, rfl, h80, E81⟩
  have X83 := Ext.gr X78 E81
  show wpList _ _ _ _ (fr [_, _, _, _, _, _, _, _, _, _, _, _, _, _, _, _, _, _, _, _, _, _, _, _, _, _, _, _, _, _, _, _, _, _, _, _, _, _, _]) _
  refine q_is rfl rfl (does_build (parts' := [(0, (Fl r49)), (1, (Fl r64)), (2, (Fl r79))]) (cells := #[(Fl r49), (Fl r64), (Fl r79)]) (evp rfl) (by kernel_rfl)) (by dsimp only [List.set]; try rfl) ?_
  refine seqn rfl rfl (does_store (n := 3) (cs := [(Fl 0), (Fl 0), (Fl 0)]) (u := (.agg #[(Fl r49), (Fl r64), (Fl r79)])) (ev rfl) (ev rfl) Try.sizeOf40 rfl (((((((((hB31.ext E41).ext E46).ext E51).ext E56).ext E61).ext E66).ext E71).ext E76).ext E81) (Nat.le_of_ble_eq_true rfl) rfl) ?_; rintro _ w86 ⟨rfl, W84, hB85⟩
  change Blk _ _ [(Fl r49), (Fl r64), (Fl r79)] at hB85
  have X87 := Below.wr X83 W84 g36
  refine wpList_nil (hK38 _ _ ?_)
  refine wp_ret ?_
  refine ret_val (v := (.agg #[(Fl r49), (Fl r64), (Fl r79)])) (res_C rfl (slot rfl) (run_loadAgg (cs := [(Fl r49), (Fl r64), (Fl r79)]) Try.isAgg40 Try.sizeOf40 (Blk.cells hB85) rfl)) X87 ?_
  have x88 : cf .f32 r49 = (crossF A_a A_b).x := by first | with_reducible rfl | (simp only [crossF, h2, h4, h6, h8, h10, h12, h40, h45, h50, h55, h60, h65, h70, h75, h80]; done) | (simp [crossF, h2, h4, h6, h8, h10, h12, h40, h45, h50, h55, h60, h65, h70, h75, h80]; done) | rfl
  have x89 : cf .f32 r64 = (crossF A_a A_b).y := by first | with_reducible rfl | (simp only [crossF, h2, h4, h6, h8, h10, h12, h40, h45, h50, h55, h60, h65, h70, h75, h80]; done) | (simp [crossF, h2, h4, h6, h8, h10, h12, h40, h45, h50, h55, h60, h65, h70, h75, h80]; done) | rfl
  have x90 : cf .f32 r79 = (crossF A_a A_b).z := by first | with_reducible rfl | (simp only [crossF, h2, h4, h6, h8, h10, h12, h40, h45, h50, h55, h60, h65, h70, h75, h80]; done) | (simp [crossF, h2, h4, h6, h8, h10, h12, h40, h45, h50, h55, h60, h65, h70, h75, h80]; done) | rfl
  exact ⟨[(Fl r49), (Fl r64), (Fl r79)], rfl, ⟨r49, r64, r79, rfl, x88, x89, x90⟩⟩

/- spec.l09Axes -/
theorem c_spec_l09Axes (c_b : Nat) (c_o : Nat) (c : List Value) (A_c : CamT) (w : World) (hc_c : Cells w c_b c_o c) (hv_c : RCamT w A_c c) : Gives Try.prog 94 #[(Pt c_b c_o)] w (fun v w' => ∃ cs_1 : List Value, ∃ cs_2 : List Value, ∃ cs_3 : List Value, v = (.tuple #[(.agg cs_1.toArray), (.agg cs_2.toArray), (.agg cs_3.toArray)]) ∧ RV3 w (rgtC A_c) cs_1 ∧ RV3 w (upC A_c) cs_2 ∧ RV3 w (fwdC A_c) cs_3) := by
  obtain ⟨r1, r3, r5, r7, r9, r11, r13, rfl, h2, h4, h6, h8, h10, h12, h14⟩ := hv_c
  refine enter [(Pt c_b c_o), Ud, Ud, Ud, Ud, Ud, Ud, Ud, Ud, Ud, Ud, Ud, Ud, Ud, Ud, Ud, Ud, Ud, Ud, Ud, Ud, Ud, Ud, Ud, Ud, Ud] Try.func94 rfl Try.ntmps94 rfl ?_
  refine wp_seq_k fun K15 hK15 => ?_
  refine wp_region_lit ?_
  refine seqd rfl rfl (does_alloc z40) ?_; rintro _ w20 ⟨b16, rfl, hb17, hB18, E19⟩
  have n21 : c_b < b16 := Nat.lt_of_lt_of_le (cell_lt (Cells.at hc_c 0 rfl)) hb17
  have g22 : w.heap.size ≤ b16 := Nat.le_trans (Below.size (Ext.refl w)) hb17
  change Blk _ _ [(Fl 0), (Fl 0), (Fl 0)] at hB18
  have X23 := Ext.gr (Ext.refl w) E19
  show wpList _ _ _ _ (fr [_, _, _, _, _, _, _, _, _, _, _, _, _, _, _, _, _, _, _, _, _, _, _, _, _, _]) _
  refine seqd rfl rfl (does_alloc z40) ?_; rintro _ w28 ⟨b24, rfl, hb25, hB26, E27⟩
  have n29 : c_b < b24 := Nat.lt_of_lt_of_le (cell_lt (Cells.at (hc_c.ext X23) 0 rfl)) hb25
  have n30 : b16 < b24 := Nat.lt_of_lt_of_le (Blk.lt hB18) hb25
  have g31 : w.heap.size ≤ b24 := Nat.le_trans (Below.size X23) hb25
  change Blk _ _ [(Fl 0), (Fl 0), (Fl 0)] at hB26
  have X32 := Ext.gr X23 E27
  show wpList _ _ _ _ (fr [_, _, _, _, _, _, _, _, _, _, _, _, _, _, _, _, _, _, _, _, _, _, _, _, _, _]) _
  refine seqd rfl rfl (does_alloc z40) ?_; rintro _ w37 ⟨b33, rfl, hb34, hB35, E36⟩
  have n38 : c_b < b33 := Nat.lt_of_lt_of_le (cell_lt (Cells.at (hc_c.ext X32) 0 rfl)) hb34
  have n39 : b16 < b33 := Nat.lt_of_lt_of_le (Blk.lt (hB18.ext E27)) hb34
  have n40 : b24 < b33 := Nat.lt_of_lt_of_le (Blk.lt hB26) hb34
  have g41 : w.heap.size ≤ b33 := Nat.le_trans (Below.size X32) hb34
  change Blk _ _ [(Fl 0), (Fl 0), (Fl 0)] at hB35
  have X42 := Ext.gr X32 E36
  show wpList _ _ _ _ (fr [_, _, _, _, _, _, _, _, _, _, _, _, _, _, _, _, _, _, _, _, _, _, _, _, _, _]) _
  refine wpList_nil (hK15 _ _ ?_)
  refine wp_seq_k fun K43 hK43 => ?_
  refine region_draw (
    [Fact.pure [] (fun v => v = (Pt c_b c_o)),
    Fact.pure [7] (fun v => v = (Pt c_b c_o)),
    Fact.pure [8] (fun v => v = (Pt c_b (c_o + 3))),
    Fact.pure [9] (fun v => v = (.agg #[(Fl r7), (Fl r9), (Fl r11)])),
    Fact.pure [] (fun v => v = (Pt c_b c_o)),
    Fact.pure [11] (fun v => v = (Pt c_b c_o)),
    Fact.pure [12] (fun v => v = (Pt c_b c_o)),
    Fact.pure [13] (fun v => v = (.agg #[(Fl r1), (Fl r3), (Fl r5)])),
    Fact.pure [10, 14] (fun v => ∃ cs_1 : List Value, v = (.agg cs_1.toArray) ∧ RV3 w (vsub A_c.to A_c.frm) cs_1),
    Fact.pure [15] (fun v => ∃ cs_1 : List Value, v = (.agg cs_1.toArray) ∧ RV3 w (unitF (vsub A_c.to A_c.frm)) cs_1),
    Fact.mem [] (fun v w' => ∃ b : Nat, v = .pointer (some ⟨b, 0, none⟩) ∧ w37.heap.size ≤ b ∧ Blk w' b [(Fl 0), (Fl 0), (Fl 0)]) (by rintro v w1 w2 hx ⟨b, rfl, hb, hB⟩; exact ⟨b, rfl, hb, (hB.ext hx)⟩)]) mixed (by kernel_rfl) (by intro _ _ d _ _ h; cases d <;> exact h) ?_
  obtain ⟨w44, hw46⟩ : ∃ w', w' = World.drew w37 := ⟨_, rfl⟩; rw [← hw46]; have E45 : Ext w37 w44 := by rw [hw46]; exact Ext.draw _
  clear hw46
  have X47 := Ext.gr X42 E45
  refine RW_d _ rfl (fun v => by dsimp only [List.set]; try rfl) (fun u hu hF => ?_) (fun v48 => ?_)
  · clear hF
    refine doesG_un rfl ?_
    refine (does_move (u := (Pt c_b c_o)) (ev rfl)).mono ?_; rintro _ _ ⟨rfl, rfl⟩
    exact ⟨rfl, Ext.refl _⟩
  refine RW_d _ rfl (fun v => by dsimp only [List.set]; try rfl) (fun u hu hF => ?_) (fun v49 => ?_)
  · have h7_ : v48 = (Pt c_b c_o) := hF.1
    clear hF
    refine doesG_un rfl ?_
    obtain rfl := h7_
    refine (does_nilCheck (ev rfl)).mono ?_; rintro _ _ ⟨rfl, rfl⟩
    exact ⟨rfl, Ext.refl _⟩
  refine RW_d _ rfl (fun v => by dsimp only [List.set]; try rfl) (fun u hu hF => ?_) (fun v50 => ?_)
  · have h8_ : v49 = (Pt c_b c_o) := hF.1
    clear hF
    refine doesG_un rfl ?_
    obtain rfl := h8_
    refine (does_fieldAddr (ev rfl) fa60_1).mono ?_; rintro _ _ ⟨rfl, rfl⟩
    exact ⟨rfl, Ext.refl _⟩
  refine RW_d _ rfl (fun v => by dsimp only [List.set]; try rfl) (fun u hu hF => ?_) (fun v51 => ?_)
  · have h9_ : v50 = (Pt c_b (c_o + 3)) := hF.1
    clear hF
    refine doesG_un rfl ?_
    obtain rfl := h9_
    refine (does_loadAgg (cs := [(Fl r7), (Fl r9), (Fl r11)]) (ev rfl) Try.isAgg40 Try.sizeOf40 (Cells.sub ((hc_c.ext (Ext.gr X42 E45)).ext hu) 3 3) rfl).mono ?_; rintro _ _ ⟨rfl, rfl⟩
    exact ⟨rfl, Ext.refl _⟩
  refine RW_d _ rfl (fun v => by dsimp only [List.set]; try rfl) (fun u hu hF => ?_) (fun v52 => ?_)
  · clear hF
    refine doesG_un rfl ?_
    refine (does_move (u := (Pt c_b c_o)) (ev rfl)).mono ?_; rintro _ _ ⟨rfl, rfl⟩
    exact ⟨rfl, Ext.refl _⟩
  refine RW_d _ rfl (fun v => by dsimp only [List.set]; try rfl) (fun u hu hF => ?_) (fun v53 => ?_)
  · have h11_ : v52 = (Pt c_b c_o) := hF.1
    clear hF
    refine doesG_un rfl ?_
    obtain rfl := h11_
    refine (does_nilCheck (ev rfl)).mono ?_; rintro _ _ ⟨rfl, rfl⟩
    exact ⟨rfl, Ext.refl _⟩
  refine RW_d _ rfl (fun v => by dsimp only [List.set]; try rfl) (fun u hu hF => ?_) (fun v54 => ?_)
  · have h12_ : v53 = (Pt c_b c_o) := hF.1
    clear hF
    refine doesG_un rfl ?_
    obtain rfl := h12_
    refine (does_fieldAddr (ev rfl) fa60_0).mono ?_; rintro _ _ ⟨rfl, rfl⟩
    exact ⟨rfl, Ext.refl _⟩
  refine RW_d _ rfl (fun v => by dsimp only [List.set]; try rfl) (fun u hu hF => ?_) (fun v55 => ?_)
  · have h13_ : v54 = (Pt c_b c_o) := hF.1
    clear hF
    refine doesG_un rfl ?_
    obtain rfl := h13_
    refine (does_loadAgg (cs := [(Fl r1), (Fl r3), (Fl r5)]) (ev rfl) Try.isAgg40 Try.sizeOf40 (Cells.sub ((hc_c.ext (Ext.gr X42 E45)).ext hu) 0 3) rfl).mono ?_; rintro _ _ ⟨rfl, rfl⟩
    exact ⟨rfl, Ext.refl _⟩
  refine RW_d _ rfl (fun v => by dsimp only [List.set]; try rfl) (fun u hu hF => ?_) (fun v56 => ?_)
  · have h10_ : v51 = (.agg #[(Fl r7), (Fl r9), (Fl r11)]) := hF.1
    have h14_ : v55 = (.agg #[(Fl r1), (Fl r3), (Fl r5)]) := hF.2.1
    clear hF
    refine doesG_un rfl ?_
    obtain rfl := h10_
    obtain rfl := h14_
    refine (does_call (args := #[(.agg #[(Fl r7), (Fl r9), (Fl r11)]), (.agg #[(Fl r1), (Fl r3), (Fl r5)])]) cal107 (evs rfl) (c_spec_l01Less [(Fl r7), (Fl r9), (Fl r11)] A_c.to [(Fl r1), (Fl r3), (Fl r5)] A_c.frm _ ⟨r7, r9, r11, rfl, h8, h10, h12⟩ ⟨r1, r3, r5, rfl, h2, h4, h6⟩)).mono ?_; rintro v u' ⟨hx, ⟨csn1, hv, k0⟩⟩
    exact ⟨⟨csn1, hv, k0⟩, hx⟩
  refine RW_d _ rfl (fun v => by dsimp only [List.set]; try rfl) (fun u hu hF => ?_) (fun v57 => ?_)
  · have h15_ : ∃ cs_1 : List Value, v56 = (.agg cs_1.toArray) ∧ RV3 w (vsub A_c.to A_c.frm) cs_1 := hF.1
    clear hF
    refine doesG_un rfl ?_
    obtain ⟨_, rfl, ⟨r15_1, r15_3, r15_5, rfl, h15_2, h15_4, h15_6⟩⟩ := h15_
    refine (does_call (args := #[(.agg #[(Fl r15_1), (Fl r15_3), (Fl r15_5)])]) cal110 (evs rfl) (c_spec_l03Unit [(Fl r15_1), (Fl r15_3), (Fl r15_5)] (vsub A_c.to A_c.frm) _ ⟨r15_1, r15_3, r15_5, rfl, (by assumption), (by assumption), (by assumption)⟩)).mono ?_; rintro v u' ⟨hx, ⟨csn1, hv, k0⟩⟩
    exact ⟨⟨csn1, hv.trans (by simp only [h15_2, h15_4, h15_6]), (by first | exact k0 | simpa only [h15_2, h15_4, h15_6] using RV3.any (w := w) k0)⟩, hx⟩
  refine RW_d _ rfl (fun v => by dsimp only [List.set]; try rfl) (fun u hu hF => ?_) (fun v58 => ?_)
  · clear hF
    refine doesG_un rfl ?_
    refine (does_alloc z40).mono ?_; rintro _ _ ⟨b, rfl, hb, hB, hx⟩
    exact ⟨⟨b, rfl, Nat.le_trans (Nat.le_trans (Below.size E45) (Below.size hu)) hb, hB⟩, hx⟩
  refine RW_fin ?_; intro w59 E60 hP61
  obtain ⟨⟨⟨⟨⟨⟨⟨⟨⟨⟨⟨-, -⟩, -⟩, -⟩, -⟩, -⟩, -⟩, -⟩, -⟩, -⟩, q62⟩, q63⟩ := hP61
  have X64 := Ext.gr X47 E60
  have q62 : ∃ cs_1 : List Value, v57 = (.agg cs_1.toArray) ∧ RV3 w (unitF (vsub A_c.to A_c.frm)) cs_1 := q62
  obtain ⟨_, rfl, ⟨r65, r67, r69, rfl, h66, h68, h70⟩⟩ := q62
  have q63 : ∃ b : Nat, v58 = .pointer (some ⟨b, 0, none⟩) ∧ w37.heap.size ≤ b ∧ Blk w59 b [(Fl 0), (Fl 0), (Fl 0)] := q63
  obtain ⟨b71, rfl, hb72, hB73⟩ := q63
  have n74 : c_b < b71 := Nat.lt_of_lt_of_le (cell_lt (Cells.at (hc_c.ext X42) 0 rfl)) hb72
  have n75 : b16 < b71 := Nat.lt_of_lt_of_le (Blk.lt ((hB18.ext E27).ext E36)) hb72
  have n76 : b24 < b71 := Nat.lt_of_lt_of_le (Blk.lt (hB26.ext E36)) hb72
  have n77 : b33 < b71 := Nat.lt_of_lt_of_le (Blk.lt hB35) hb72
  have g78 : w.heap.size ≤ b71 := Nat.le_trans (Below.size X42) hb72
  show wpList _ _ _ _ (fr [_, _, _, _, _, _, _, _, _, _, _, _, _, _, _, _, _, _, _, _, _, _, _, _, _, _]) _
  refine seqn rfl rfl (does_store (n := 3) (cs := [(Fl 0), (Fl 0), (Fl 0)]) (u := (.agg #[(Fl r65), (Fl r67), (Fl r69)])) (ev rfl) (ev rfl) Try.sizeOf40 rfl hB73 (Nat.le_of_ble_eq_true rfl) rfl) ?_; rintro _ w81 ⟨rfl, W79, hB80⟩
  change Blk _ _ [(Fl r65), (Fl r67), (Fl r69)] at hB80
  have X82 := Below.wr X64 W79 g78
  refine wpList_nil (hK43 _ _ ?_)
  refine wp_seq_k fun K83 hK83 => ?_
  refine wp_region_lit ?_
  refine q_is rfl rfl (does_loadAgg (cs := [(Fl r65), (Fl r67), (Fl r69)]) (ev rfl) Try.isAgg40 Try.sizeOf40 (Blk.cells hB80) rfl) (by dsimp only [List.set]; try rfl) ?_
  refine q_is rfl rfl (does_build (parts' := [(1, (Fl 1065353216))]) (cells := #[(Fl 0), (Fl 1065353216), (Fl 0)]) (evp rfl) (by kernel_rfl)) (by dsimp only [List.set]; try rfl) ?_
  refine seqd rfl rfl (does_call (args := #[(.agg #[(Fl r65), (Fl r67), (Fl r69)]), (.agg #[(Fl 0), (Fl 1065353216), (Fl 0)])]) cal111 (evs rfl) (c_spec_l01Cross [(Fl r65), (Fl r67), (Fl r69)] (unitF (vsub A_c.to A_c.frm)) [(Fl 0), (Fl 1065353216), (Fl 0)] (V3.mk (cf .f32 0) (cf .f32 1065353216) (cf .f32 0)) _ ⟨r65, r67, r69, rfl, h66, h68, h70⟩ ⟨0, 1065353216, 0, rfl, rfl, rfl, rfl⟩)) ?_; rintro _ w85 ⟨E84, ⟨_, rfl, ⟨r86, r88, r90, rfl, h87, h89, h91⟩⟩⟩
  have X92 := Ext.gr X82 E84
  show wpList _ _ _ _ (fr [_, _, _, _, _, _, _, _, _, _, _, _, _, _, _, _, _, _, _, _, _, _, _, _, _, _]) _
  refine seqd rfl rfl (does_call (args := #[(.agg #[(Fl r86), (Fl r88), (Fl r90)])]) cal110 (evs rfl) (c_spec_l03Unit [(Fl r86), (Fl r88), (Fl r90)] (crossF (unitF (vsub A_c.to A_c.frm)) (V3.mk (cf .f32 0) (cf .f32 1065353216) (cf .f32 0))) _ ⟨r86, r88, r90, rfl, h87, h89, h91⟩)) ?_; rintro _ w94 ⟨E93, ⟨_, rfl, ⟨r95, r97, r99, rfl, h96, h98, h100⟩⟩⟩
  have X101 := Ext.gr X92 E93
  show wpList _ _ _ _ (fr [_, _, _, _, _, _, _, _, _, _, _, _, _, _, _, _, _, _, _, _, _, _, _, _, _, _]) _
  refine seqd rfl rfl (does_alloc z40) ?_; rintro _ w106 ⟨b102, rfl, hb103, hB104, E105⟩
  have n107 : c_b < b102 := Nat.lt_of_lt_of_le (cell_lt (Cells.at (hc_c.ext X101) 0 rfl)) hb103
  have n108 : b16 < b102 := Nat.lt_of_lt_of_le (Blk.lt (((((((hB18.ext E27).ext E36).ext E45).ext E60).wr W79 (Nat.ne_of_lt n75)).ext E84).ext E93)) hb103
  have n109 : b24 < b102 := Nat.lt_of_lt_of_le (Blk.lt ((((((hB26.ext E36).ext E45).ext E60).wr W79 (Nat.ne_of_lt n76)).ext E84).ext E93)) hb103
  have n110 : b33 < b102 := Nat.lt_of_lt_of_le (Blk.lt (((((hB35.ext E45).ext E60).wr W79 (Nat.ne_of_lt n77)).ext E84).ext E93)) hb103
  have n111 : b71 < b102 := Nat.lt_of_lt_of_le (Blk.lt ((hB80.ext E84).ext E93)) hb103
  have g112 : w.heap.size ≤ b102 := Nat.le_trans (Below.size X101) hb103
  change Blk _ _ [(Fl 0), (Fl 0), (Fl 0)] at hB104
  have X113 := Ext.gr X101 E105
  show wpList _ _ _ _ (fr [_, _, _, _, _, _, _, _, _, _, _, _, _, _, _, _, _, _, _, _, _, _, _, _, _, _]) _
  refine seqn rfl rfl (does_store (n := 3) (cs := [(Fl 0), (Fl 0), (Fl 0)]) (u := (.agg #[(Fl r95), (Fl r97), (Fl r99)])) (ev rfl) (ev rfl) Try.sizeOf40 rfl hB104 (Nat.le_of_ble_eq_true rfl) rfl) ?_; rintro _ w116 ⟨rfl, W114, hB115⟩
  change Blk _ _ [(Fl r95), (Fl r97), (Fl r99)] at hB115
  have X117 := Below.wr X113 W114 g112
  refine wpList_nil (hK83 _ _ ?_)
  refine wp_seq_k fun K118 hK118 => ?_
  have n122 : b16 < w116.heap.size := Blk.lt (((((((((hB18.ext E27).ext E36).ext E45).ext E60).wr W79 (Nat.ne_of_lt n75)).ext E84).ext E93).ext E105).wr W114 (Nat.ne_of_lt n108))
  have n123 : b24 < w116.heap.size := Blk.lt ((((((((hB26.ext E36).ext E45).ext E60).wr W79 (Nat.ne_of_lt n76)).ext E84).ext E93).ext E105).wr W114 (Nat.ne_of_lt n109))
  refine region_any2 [b16, b24] [0, 0, 0, 6, 0, 15, 47, 127] [0, 1] (
    [FactW.pure [] [] [0, 1] true (fun v => v = (.agg #[(Fl r95), (Fl r97), (Fl r99)])),
      FactW.pure [] [] [0, 1] true (fun v => v = (.agg #[(Fl r95), (Fl r97), (Fl r99)])),
      FactW.pure [] [] [0, 1] true (fun v => v = (.agg #[(Fl r65), (Fl r67), (Fl r69)])),
      FactW.pure [1, 2] [] [0, 1] true (fun v => ∃ cs_1 : List Value, v = (.agg cs_1.toArray) ∧ RV3 w (crossF (unitF (crossF (unitF (vsub A_c.to A_c.frm)) (V3.mk (cf .f32 0) (cf .f32 1065353216) (cf .f32 0)))) (unitF (vsub A_c.to A_c.frm))) cs_1),
      FactW.pure [] [0, 1] [0, 1] true (fun v => v = (.agg #[(Fl r65), (Fl r67), (Fl r69)])),
      FactW.mem [0] [] [0] [1] true (fun v w' => v = undef ∧ Blk w' b16 [(Fl r95), (Fl r97), (Fl r99)]) (by rintro v w1 w2 hx ⟨rfl, h⟩; exact ⟨rfl, h.kl hx (ninS (Nat.ne_of_lt n30) nin0)⟩),
      FactW.mem [5, 3] [0] [1] [0] true (fun v w' => v = undef ∧ ∃ r_1 : Nat, ∃ r_2 : Nat, ∃ r_3 : Nat, Blk w' b24 [(Fl r_1), (Fl r_2), (Fl r_3)] ∧ cf .f32 r_1 = (crossF (unitF (crossF (unitF (vsub A_c.to A_c.frm)) (V3.mk (cf .f32 0) (cf .f32 1065353216) (cf .f32 0)))) (unitF (vsub A_c.to A_c.frm))).x ∧ cf .f32 r_2 = (crossF (unitF (crossF (unitF (vsub A_c.to A_c.frm)) (V3.mk (cf .f32 0) (cf .f32 1065353216) (cf .f32 0)))) (unitF (vsub A_c.to A_c.frm))).y ∧ cf .f32 r_3 = (crossF (unitF (crossF (unitF (vsub A_c.to A_c.frm)) (V3.mk (cf .f32 0) (cf .f32 1065353216) (cf .f32 0)))) (unitF (vsub A_c.to A_c.frm))).z) (by rintro v w1 w2 hx ⟨rfl, z0, z1, z2, h, k0, k1, k2⟩; exact ⟨rfl, z0, z1, z2, h.kl hx (ninS (Nat.ne_of_gt n30) nin0), k0, k1, k2⟩)]) mixed (by kernel_rfl) ?_
  obtain ⟨w119, hw121⟩ : ∃ w', w' = World.drew w116 := ⟨_, rfl⟩; rw [← hw121]; have E120 : Ext w116 w119 := by rw [hw121]; exact Ext.draw _
  clear hw121
  have X124 := Ext.gr X117 E120
  refine RW2_d _ rfl (fun v => by dsimp only [List.set]; try rfl) (fun u hu hF => ?_) (fun v125 => ?_)
  · replace hu : KpL [] _ _ := hu
    clear hF
    refine doesG_un rfl ?_
    refine (does_loadAgg (cs := [(Fl r95), (Fl r97), (Fl r99)]) (ev rfl) Try.isAgg40 Try.sizeOf40 (Blk.cells ((hB115.ext E120).ext (KpL.toExt hu))) rfl).mono ?_; rintro _ _ ⟨rfl, rfl⟩
    exact ⟨rfl, KpL.refl _ _⟩
  refine RW2_d _ rfl (fun v => by dsimp only [List.set]; try rfl) (fun u hu hF => ?_) (fun v126 => ?_)
  · replace hu : KpL [] _ _ := hu
    clear hF
    refine doesG_un rfl ?_
    refine (does_loadAgg (cs := [(Fl r95), (Fl r97), (Fl r99)]) (ev rfl) Try.isAgg40 Try.sizeOf40 (Blk.cells ((hB115.ext E120).ext (KpL.toExt hu))) rfl).mono ?_; rintro _ _ ⟨rfl, rfl⟩
    exact ⟨rfl, KpL.refl _ _⟩
  refine RW2_d _ rfl (fun v => by dsimp only [List.set]; try rfl) (fun u hu hF => ?_) (fun v127 => ?_)
  · replace hu : KpL [] _ _ := hu
    clear hF
    refine doesG_un rfl ?_
    refine (does_loadAgg (cs := [(Fl r65), (Fl r67), (Fl r69)]) (ev rfl) Try.isAgg40 Try.sizeOf40 (Blk.cells ((((((hB80.ext E84).ext E93).ext E105).wr W114 (Nat.ne_of_lt n111)).ext E120).ext (KpL.toExt hu))) rfl).mono ?_; rintro _ _ ⟨rfl, rfl⟩
    exact ⟨rfl, KpL.refl _ _⟩
  refine RW2_d _ rfl (fun v => by dsimp only [List.set]; try rfl) (fun u hu hF => ?_) (fun v128 => ?_)
  · replace hu : KpL [] _ _ := hu
    have h22_ : v126 = (.agg #[(Fl r95), (Fl r97), (Fl r99)]) := hF.1
    have h23_ : v127 = (.agg #[(Fl r65), (Fl r67), (Fl r69)]) := hF.2.1
    clear hF
    refine doesG_un rfl ?_
    obtain rfl := h22_
    obtain rfl := h23_
    refine (does_call (args := #[(.agg #[(Fl r95), (Fl r97), (Fl r99)]), (.agg #[(Fl r65), (Fl r67), (Fl r69)])]) cal111 (evs rfl) (c_spec_l01Cross [(Fl r95), (Fl r97), (Fl r99)] (unitF (crossF (unitF (vsub A_c.to A_c.frm)) (V3.mk (cf .f32 0) (cf .f32 1065353216) (cf .f32 0)))) [(Fl r65), (Fl r67), (Fl r69)] (unitF (vsub A_c.to A_c.frm)) _ ⟨r95, r97, r99, rfl, h96, h98, h100⟩ ⟨r65, r67, r69, rfl, h66, h68, h70⟩)).mono ?_; rintro v u' ⟨hx, ⟨csn1, hv, k0⟩⟩
    exact ⟨⟨csn1, hv, k0⟩, (KpL.of_ext hx)⟩
  refine RW2_d _ rfl (fun v => by dsimp only [List.set]; try rfl) (fun u hu hF => ?_) (fun v129 => ?_)
  · replace hu : KpL [b16, b24] _ _ := hu
    clear hF
    refine doesG_un rfl ?_
    refine (does_loadAgg (cs := [(Fl r65), (Fl r67), (Fl r69)]) (ev rfl) Try.isAgg40 Try.sizeOf40 (Blk.cells ((((((hB80.ext E84).ext E93).ext E105).wr W114 (Nat.ne_of_lt n111)).ext E120).kl hu (ninS (Nat.ne_of_gt n75) (ninS (Nat.ne_of_gt n76) nin0)))) rfl).mono ?_; rintro _ _ ⟨rfl, rfl⟩
    exact ⟨rfl, KpL.refl _ _⟩
  refine RW2_n rfl (fun u hu hF => ?_) (fun v130 => ?_)
  · replace hu : KpL [] _ _ := hu
    have h21_ : v125 = (.agg #[(Fl r95), (Fl r97), (Fl r99)]) := hF.1
    clear hF
    refine doesG_un rfl ?_
    obtain rfl := h21_
    refine (does_store (n := 3) (cs := [(Fl 0), (Fl 0), (Fl 0)]) (u := (.agg #[(Fl r95), (Fl r97), (Fl r99)])) (ev rfl) (ev rfl) Try.sizeOf40 rfl (((((((((((hB18.ext E27).ext E36).ext E45).ext E60).wr W79 (Nat.ne_of_lt n75)).ext E84).ext E93).ext E105).wr W114 (Nat.ne_of_lt n108)).ext E120).ext (KpL.toExt hu)) (Nat.le_of_ble_eq_true rfl) rfl).mono ?_; rintro _ _ ⟨rfl, hW, hB⟩
    exact ⟨⟨rfl, hB⟩, KpL.of_wr hW⟩
  refine RW2_n rfl (fun u hu hF => ?_) (fun v131 => ?_)
  · replace hu : KpL [b16] _ _ := hu
    obtain ⟨_, hs5_⟩ := hF.1
    have h24_ : ∃ cs_1 : List Value, v128 = (.agg cs_1.toArray) ∧ RV3 w (crossF (unitF (crossF (unitF (vsub A_c.to A_c.frm)) (V3.mk (cf .f32 0) (cf .f32 1065353216) (cf .f32 0)))) (unitF (vsub A_c.to A_c.frm))) cs_1 := hF.2.1
    clear hF
    refine doesG_un rfl ?_
    obtain ⟨_, rfl, ⟨r24_1, r24_3, r24_5, rfl, h24_2, h24_4, h24_6⟩⟩ := h24_
    refine (does_store (n := 3) (cs := [(Fl 0), (Fl 0), (Fl 0)]) (u := (.agg #[(Fl r24_1), (Fl r24_3), (Fl r24_5)])) (ev rfl) (ev rfl) Try.sizeOf40 rfl ((((((((((hB26.ext E36).ext E45).ext E60).wr W79 (Nat.ne_of_lt n76)).ext E84).ext E93).ext E105).wr W114 (Nat.ne_of_lt n109)).ext E120).kl hu (ninS (Nat.ne_of_gt n30) nin0)) (Nat.le_of_ble_eq_true rfl) rfl).mono ?_; rintro _ _ ⟨rfl, hW, hB⟩
    exact ⟨⟨rfl, r24_1, r24_3, r24_5, hB, (by simp only [h24_2, h24_4, h24_6]), (by simp only [h24_2, h24_4, h24_6]), (by simp only [h24_2, h24_4, h24_6])⟩, KpL.of_wr hW⟩
  refine RW2_fin ?_; intro w132 E133 hP134; replace E133 : KpL [b16, b24] _ _ := E133
  obtain ⟨⟨⟨⟨⟨⟨⟨-, -⟩, -⟩, -⟩, -⟩, q135⟩, q136⟩, q137⟩ := hP134
  have X138 := Below.kl X124 E133 (allS g22 (allS g31 all0)) (Nat.le_refl _)
  obtain ⟨_, hB139⟩ := q136 rfl
  change Blk _ _ [(Fl r95), (Fl r97), (Fl r99)] at hB139
  obtain ⟨_, r141, r142, r143, hB140, h144, h145, h146⟩ := q137 rfl
  change Blk _ _ [(Fl r141), (Fl r142), (Fl r143)] at hB140
  have q135 : v129 = (.agg #[(Fl r65), (Fl r67), (Fl r69)]) := q135 rfl
  obtain rfl := q135
  show wpList _ _ _ _ (fr [_, _, _, _, _, _, _, _, _, _, _, _, _, _, _, _, _, _, _, _, _, _, _, _, _, _]) _
  refine seqn rfl rfl (does_store (n := 3) (cs := [(Fl 0), (Fl 0), (Fl 0)]) (u := (.agg #[(Fl r65), (Fl r67), (Fl r69)])) (ev rfl) (ev rfl) Try.sizeOf40 rfl (((((((((hB35.ext E45).ext E60).wr W79 (Nat.ne_of_lt n77)).ext E84).ext E93).ext E105).wr W114 (Nat.ne_of_lt n110)).ext E120).kl E133 (ninS (Nat.ne_of_gt n39) (ninS (Nat.ne_of_gt n40) nin0))) (Nat.le_of_ble_eq_true rfl) rfl) ?_; rintro _ w149 ⟨rfl, W147, hB148⟩
  change Blk _ _ [(Fl r65), (Fl r67), (Fl r69)] at hB148
  have X150 := Below.wr X138 W147 g41
  refine wpList_nil (hK118 _ _ ?_)
  refine wp_ret ?_
  refine ret_val (v := (.tuple #[(.agg #[(Fl r95), (Fl r97), (Fl r99)]), (.agg #[(Fl r141), (Fl r142), (Fl r143)]), (.agg #[(Fl r65), (Fl r67), (Fl r69)])])) (res_CCC rfl (slot rfl) (run_loadAgg (cs := [(Fl r95), (Fl r97), (Fl r99)]) Try.isAgg40 Try.sizeOf40 (Blk.cells (hB139.wr W147 (Nat.ne_of_lt n39))) rfl) (slot rfl) (run_loadAgg (cs := [(Fl r141), (Fl r142), (Fl r143)]) Try.isAgg40 Try.sizeOf40 (Blk.cells (hB140.wr W147 (Nat.ne_of_lt n40))) rfl) (slot rfl) (run_loadAgg (cs := [(Fl r65), (Fl r67), (Fl r69)]) Try.isAgg40 Try.sizeOf40 (Blk.cells hB148) rfl)) X150 ?_
  have x151 : cf .f32 r95 = (rgtC A_c).x := by first | with_reducible rfl | (simp only [rgtC, upC, fwdC, h2, h4, h6, h8, h10, h12, h14, h66, h68, h70, h87, h89, h91, h96, h98, h100, h144, h145, h146]; done) | (simp [rgtC, upC, fwdC, h2, h4, h6, h8, h10, h12, h14, h66, h68, h70, h87, h89, h91, h96, h98, h100, h144, h145, h146]; done) | rfl
  have x152 : cf .f32 r97 = (rgtC A_c).y := by first | with_reducible rfl | (simp only [rgtC, upC, fwdC, h2, h4, h6, h8, h10, h12, h14, h66, h68, h70, h87, h89, h91, h96, h98, h100, h144, h145, h146]; done) | (simp [rgtC, upC, fwdC, h2, h4, h6, h8, h10, h12, h14, h66, h68, h70, h87, h89, h91, h96, h98, h100, h144, h145, h146]; done) | rfl
  have x153 : cf .f32 r99 = (rgtC A_c).z := by first | with_reducible rfl | (simp only [rgtC, upC, fwdC, h2, h4, h6, h8, h10, h12, h14, h66, h68, h70, h87, h89, h91, h96, h98, h100, h144, h145, h146]; done) | (simp [rgtC, upC, fwdC, h2, h4, h6, h8, h10, h12, h14, h66, h68, h70, h87, h89, h91, h96, h98, h100, h144, h145, h146]; done) | rfl
  have x154 : cf .f32 r141 = (upC A_c).x := by first | with_reducible rfl | (simp only [rgtC, upC, fwdC, h2, h4, h6, h8, h10, h12, h14, h66, h68, h70, h87, h89, h91, h96, h98, h100, h144, h145, h146]; done) | (simp [rgtC, upC, fwdC, h2, h4, h6, h8, h10, h12, h14, h66, h68, h70, h87, h89, h91, h96, h98, h100, h144, h145, h146]; done) | rfl
  have x155 : cf .f32 r142 = (upC A_c).y := by first | with_reducible rfl | (simp only [rgtC, upC, fwdC, h2, h4, h6, h8, h10, h12, h14, h66, h68, h70, h87, h89, h91, h96, h98, h100, h144, h145, h146]; done) | (simp [rgtC, upC, fwdC, h2, h4, h6, h8, h10, h12, h14, h66, h68, h70, h87, h89, h91, h96, h98, h100, h144, h145, h146]; done) | rfl
  have x156 : cf .f32 r143 = (upC A_c).z := by first | with_reducible rfl | (simp only [rgtC, upC, fwdC, h2, h4, h6, h8, h10, h12, h14, h66, h68, h70, h87, h89, h91, h96, h98, h100, h144, h145, h146]; done) | (simp [rgtC, upC, fwdC, h2, h4, h6, h8, h10, h12, h14, h66, h68, h70, h87, h89, h91, h96, h98, h100, h144, h145, h146]; done) | rfl
  have x157 : cf .f32 r65 = (fwdC A_c).x := by first | with_reducible rfl | (simp only [rgtC, upC, fwdC, h2, h4, h6, h8, h10, h12, h14, h66, h68, h70, h87, h89, h91, h96, h98, h100, h144, h145, h146]; done) | (simp [rgtC, upC, fwdC, h2, h4, h6, h8, h10, h12, h14, h66, h68, h70, h87, h89, h91, h96, h98, h100, h144, h145, h146]; done) | rfl
  have x158 : cf .f32 r67 = (fwdC A_c).y := by first | with_reducible rfl | (simp only [rgtC, upC, fwdC, h2, h4, h6, h8, h10, h12, h14, h66, h68, h70, h87, h89, h91, h96, h98, h100, h144, h145, h146]; done) | (simp [rgtC, upC, fwdC, h2, h4, h6, h8, h10, h12, h14, h66, h68, h70, h87, h89, h91, h96, h98, h100, h144, h145, h146]; done) | rfl
  have x159 : cf .f32 r69 = (fwdC A_c).z := by first | with_reducible rfl | (simp only [rgtC, upC, fwdC, h2, h4, h6, h8, h10, h12, h14, h66, h68, h70, h87, h89, h91, h96, h98, h100, h144, h145, h146]; done) | (simp [rgtC, upC, fwdC, h2, h4, h6, h8, h10, h12, h14, h66, h68, h70, h87, h89, h91, h96, h98, h100, h144, h145, h146]; done) | rfl
  exact ⟨[(Fl r95), (Fl r97), (Fl r99)], [(Fl r141), (Fl r142), (Fl r143)], [(Fl r65), (Fl r67), (Fl r69)], rfl, ⟨r95, r97, r99, rfl, x151, x152, x153⟩, ⟨r141, r142, r143, rfl, x154, x155, x156⟩, ⟨r65, r67, r69, rfl, x157, x158, x159⟩⟩

/- spec.l09Some -/
theorem c_spec_l09Some (v : List Value) (A_v : V3) (w : World) (hv_v : RV3 w A_v v) : Gives Try.prog 95 #[(.agg v.toArray)] w (fun v w' => v = (Bo (someV A_v))) := by
  obtain ⟨r1, r3, r5, rfl, h2, h4, h6⟩ := hv_v
  refine enter [(.agg #[(Fl r1), (Fl r3), (Fl r5)]), Ud, Ud, Ud, Ud, Ud, Ud, Ud, Ud, Ud, Ud, Ud, Ud, Ud, Ud, Ud, Ud, Ud, Ud, Ud, Ud, Ud, Ud, Ud, Ud, Ud, Ud, Ud, Ud, Ud, Ud, Ud, Ud, Ud, Ud, Ud, Ud] Try.func95 rfl Try.ntmps95 rfl ?_
  refine wp_seq_k fun K7 hK7 => ?_
  refine wp_region_lit ?_
  refine seqd rfl rfl (does_box (u := (.agg #[(Fl r1), (Fl r3), (Fl r5)])) (ev rfl)) ?_; rintro _ w12 ⟨b8, rfl, hb9, hB10, E11⟩
  have g13 : w.heap.size ≤ b8 := Nat.le_trans (Below.size (Ext.refl w)) hb9
  change Blk _ _ [(Fl r1), (Fl r3), (Fl r5)] at hB10
  have X14 := Ext.gr (Ext.refl w) E11
  show wpList _ _ _ _ (fr [_, _, _, _, _, _, _, _, _, _, _, _, _, _, _, _, _, _, _, _, _, _, _, _, _, _, _, _, _, _, _, _, _, _, _, _, _]) _
  refine q_is rfl rfl (does_assign (u := (Bo false)) (ev rfl)) (by dsimp only [List.set]; try rfl) ?_
  refine wpList_nil (hK7 _ _ ?_)
  refine wp_seq_k fun K15 hK15 => ?_
  obtain ⟨β1, hβ1⟩ : ∃ b : Bool, b = (fcmp .eql (ford .f32 (cf .f32 r1) (cf .f32 r1))) := ⟨_, rfl⟩
  obtain ⟨β2, hβ2⟩ : ∃ b : Bool, b = (fcmp .eql (ford .f32 (cf .f32 r3) (cf .f32 r3))) := ⟨_, rfl⟩
  obtain ⟨β3, hβ3⟩ : ∃ b : Bool, b = (fcmp .eql (ford .f32 (cf .f32 r5) (cf .f32 r5))) := ⟨_, rfl⟩
  obtain ⟨β4, hβ4⟩ : ∃ b : Bool, b = (fcmp .neq (ford .f32 (cf .f32 r1) (cf .f32 0))) := ⟨_, rfl⟩
  obtain ⟨β5, hβ5⟩ : ∃ b : Bool, b = (fcmp .neq (ford .f32 (cf .f32 r3) (cf .f32 0))) := ⟨_, rfl⟩
  obtain ⟨β6, hβ6⟩ : ∃ b : Bool, b = (fcmp .neq (ford .f32 (cf .f32 r5) (cf .f32 0))) := ⟨_, rfl⟩
  obtain ⟨β7, hβ7⟩ : ∃ b : Bool, b = (((β1 && β2) && β3) && ((β4 || β5) || β6)) := ⟨_, rfl⟩
  refine region_text (
    [Fact.pure [] (fun v => v = (Pt b8 0)),
    Fact.pure [3] (fun v => v = (Fl r1)),
    Fact.pure [] (fun v => v = (Pt b8 0)),
    Fact.pure [5] (fun v => v = (Fl r1)),
    Fact.pure [4, 6] (fun v => v = (Bo β1)),
    Fact.pure [7] (fun v => v = (Bo β1)),
    Fact.pure [8] (fun v => β1 = true → v = (Pt b8 1)),
    Fact.pure [9, 8] (fun v => β1 = true → v = (Fl r3)),
    Fact.pure [8] (fun v => β1 = true → v = (Pt b8 1)),
    Fact.pure [11, 8] (fun v => β1 = true → v = (Fl r3)),
    Fact.pure [10, 12, 8] (fun v => β1 = true → v = (Bo β2)),
    Fact.pure [8, 13] (fun v => v = (Bo (β1 && β2))),
    Fact.pure [14] (fun v => v = (Bo (β1 && β2))),
    Fact.pure [15] (fun v => (β1 && β2) = true → v = (Pt b8 2)),
    Fact.pure [16, 15] (fun v => (β1 && β2) = true → v = (Fl r5)),
    Fact.pure [15] (fun v => (β1 && β2) = true → v = (Pt b8 2)),
    Fact.pure [18, 15] (fun v => (β1 && β2) = true → v = (Fl r5)),
    Fact.pure [17, 19, 15] (fun v => (β1 && β2) = true → v = (Bo β3)),
    Fact.pure [15, 20] (fun v => v = (Bo ((β1 && β2) && β3))),
    Fact.pure [21] (fun v => v = (Bo ((β1 && β2) && β3))),
    Fact.pure [22] (fun v => ((β1 && β2) && β3) = true → v = (Pt b8 0)),
    Fact.pure [23, 22] (fun v => ((β1 && β2) && β3) = true → v = (Fl r1)),
    Fact.pure [24, 22] (fun v => ((β1 && β2) && β3) = true → v = (Bo β4)),
    Fact.pure [25, 22] (fun v => (((β1 && β2) && β3) = true → v = (Bo β4)) ∧ (¬ (((β1 && β2) && β3) = true) → v = undef)),
    Fact.pure [26] (fun v => ((β1 && β2) && β3) = true → β4 = false → v = (Pt b8 1)),
    Fact.pure [27, 26] (fun v => ((β1 && β2) && β3) = true → β4 = false → v = (Fl r3)),
    Fact.pure [28, 26] (fun v => ((β1 && β2) && β3) = true → β4 = false → v = (Bo β5)),
    Fact.pure [26, 29, 22] (fun v => ((β1 && β2) && β3) = true → v = (Bo (β4 || β5))),
    Fact.pure [30, 22] (fun v => (((β1 && β2) && β3) = true → v = (Bo (β4 || β5))) ∧ (¬ (((β1 && β2) && β3) = true) → v = undef)),
    Fact.pure [31] (fun v => ((β1 && β2) && β3) = true → (β4 || β5) = false → v = (Pt b8 2)),
    Fact.pure [32, 31] (fun v => ((β1 && β2) && β3) = true → (β4 || β5) = false → v = (Fl r5)),
    Fact.pure [33, 31] (fun v => ((β1 && β2) && β3) = true → (β4 || β5) = false → v = (Bo β6)),
    Fact.pure [31, 34, 22] (fun v => ((β1 && β2) && β3) = true → v = (Bo ((β4 || β5) || β6))),
    Fact.pure [22, 35] (fun v => v = (Bo β7))]) (by simp [Fact.pure, Fact.mem]) ?_
  refine RW_d _ rfl (fun v => by dsimp only [List.set]; try rfl) (fun u hu hF => ?_) (fun v16 => ?_)
  · clear hF
    refine doesG_un rfl ?_
    refine (does_fieldAddr (ev rfl) fa40_0).mono ?_; rintro _ _ ⟨rfl, rfl⟩
    exact ⟨rfl, Ext.refl _⟩
  refine RW_d _ rfl (fun v => by dsimp only [List.set]; try rfl) (fun u hu hF => ?_) (fun v17 => ?_)
  · have h3_ : v16 = (Pt b8 0) := hF.1
    clear hF
    refine doesG_un rfl ?_
    obtain rfl := h3_
    refine (does_load (u := (Fl r1)) (ev rfl) Try.isAgg38 (Cells.at (Blk.cells (hB10.ext hu)) 0 rfl)).mono ?_; rintro _ _ ⟨rfl, rfl⟩
    exact ⟨rfl, Ext.refl _⟩
  refine RW_d _ rfl (fun v => by dsimp only [List.set]; try rfl) (fun u hu hF => ?_) (fun v18 => ?_)
  · clear hF
    refine doesG_un rfl ?_
    refine (does_fieldAddr (ev rfl) fa40_0).mono ?_; rintro _ _ ⟨rfl, rfl⟩
    exact ⟨rfl, Ext.refl _⟩
  refine RW_d _ rfl (fun v => by dsimp only [List.set]; try rfl) (fun u hu hF => ?_) (fun v19 => ?_)
  · have h5_ : v18 = (Pt b8 0) := hF.1
    clear hF
    refine doesG_un rfl ?_
    obtain rfl := h5_
    refine (does_load (u := (Fl r1)) (ev rfl) Try.isAgg38 (Cells.at (Blk.cells (hB10.ext hu)) 0 rfl)).mono ?_; rintro _ _ ⟨rfl, rfl⟩
    exact ⟨rfl, Ext.refl _⟩
  refine RW_d _ rfl (fun v => by dsimp only [List.set]; try rfl) (fun u hu hF => ?_) (fun v20 => ?_)
  · have h4_ : v17 = (Fl r1) := hF.1
    have h6_ : v19 = (Fl r1) := hF.2.1
    clear hF
    refine doesG_un rfl ?_
    obtain rfl := h4_
    obtain rfl := h6_
    refine (does_fcmp (.inl rfl) (ev rfl) (ev rfl)).mono ?_; rintro _ _ ⟨rfl, rfl⟩
    exact ⟨(by first | rfl | (show _ = _; simp only [hβ1]; done) | (show _ = _; simp only [hβ1]; rfl)), Ext.refl _⟩
  refine RW_d _ rfl (fun v => by dsimp only [List.set]; try rfl) (fun u hu hF => ?_) (fun v21 => ?_)
  · have h7_ : v20 = (Bo β1) := hF.1
    clear hF
    refine doesG_un rfl ?_
    obtain rfl := h7_
    refine (does_move (u := (Bo β1)) (ev rfl)).mono ?_; rintro _ _ ⟨rfl, rfl⟩
    exact ⟨rfl, Ext.refl _⟩
  refine RW_d _ rfl (fun v => by dsimp only [List.set]; try rfl) (fun u hu hF => ?_) (fun v22 => ?_)
  · have h8_ : v21 = (Bo β1) := hF.1
    clear hF
    obtain rfl := h8_
    refine doesG_g (b := β1) rfl (yld rfl rfl) (fun hg1 => ?_) (fun hc => ⟨fun hg1 => absurd hg1 hc, Ext.refl _⟩)
    refine (does_fieldAddr (ev rfl) fa40_1).mono ?_; rintro _ _ ⟨rfl, rfl⟩
    exact ⟨fun _ => rfl, Ext.refl _⟩
  refine RW_d _ rfl (fun v => by dsimp only [List.set]; try rfl) (fun u hu hF => ?_) (fun v23 => ?_)
  · have h9_ : β1 = true → v22 = (Pt b8 1) := hF.1
    have h8_ : v21 = (Bo β1) := hF.2.1
    clear hF
    obtain rfl := h8_
    refine doesG_g (b := β1) rfl (yld rfl rfl) (fun hg1 => ?_) (fun hc => ⟨fun hg1 => absurd hg1 hc, Ext.refl _⟩)
    obtain rfl := h9_ hg1
    refine (does_load (u := (Fl r3)) (ev rfl) Try.isAgg38 (Cells.at (Blk.cells (hB10.ext hu)) 1 rfl)).mono ?_; rintro _ _ ⟨rfl, rfl⟩
    exact ⟨fun _ => rfl, Ext.refl _⟩
  refine RW_d _ rfl (fun v => by dsimp only [List.set]; try rfl) (fun u hu hF => ?_) (fun v24 => ?_)
  · have h8_ : v21 = (Bo β1) := hF.1
    clear hF
    obtain rfl := h8_
    refine doesG_g (b := β1) rfl (yld rfl rfl) (fun hg1 => ?_) (fun hc => ⟨fun hg1 => absurd hg1 hc, Ext.refl _⟩)
    refine (does_fieldAddr (ev rfl) fa40_1).mono ?_; rintro _ _ ⟨rfl, rfl⟩
    exact ⟨fun _ => rfl, Ext.refl _⟩
  refine RW_d _ rfl (fun v => by dsimp only [List.set]; try rfl) (fun u hu hF => ?_) (fun v25 => ?_)
  · have h11_ : β1 = true → v24 = (Pt b8 1) := hF.1
    have h8_ : v21 = (Bo β1) := hF.2.1
    clear hF
    obtain rfl := h8_
    refine doesG_g (b := β1) rfl (yld rfl rfl) (fun hg1 => ?_) (fun hc => ⟨fun hg1 => absurd hg1 hc, Ext.refl _⟩)
    obtain rfl := h11_ hg1
    refine (does_load (u := (Fl r3)) (ev rfl) Try.isAgg38 (Cells.at (Blk.cells (hB10.ext hu)) 1 rfl)).mono ?_; rintro _ _ ⟨rfl, rfl⟩
    exact ⟨fun _ => rfl, Ext.refl _⟩
  refine RW_d _ rfl (fun v => by dsimp only [List.set]; try rfl) (fun u hu hF => ?_) (fun v26 => ?_)
  · have h10_ : β1 = true → v23 = (Fl r3) := hF.1
    have h12_ : β1 = true → v25 = (Fl r3) := hF.2.1
    have h8_ : v21 = (Bo β1) := hF.2.2.1
    clear hF
    obtain rfl := h8_
    refine doesG_g (b := β1) rfl (yld rfl rfl) (fun hg1 => ?_) (fun hc => ⟨fun hg1 => absurd hg1 hc, Ext.refl _⟩)
    obtain rfl := h10_ hg1
    obtain rfl := h12_ hg1
    refine (does_fcmp (.inl rfl) (ev rfl) (ev rfl)).mono ?_; rintro _ _ ⟨rfl, rfl⟩
    exact ⟨fun _ => (by first | rfl | (show _ = _; simp only [hβ2]; done) | (show _ = _; simp only [hβ2]; rfl)), Ext.refl _⟩
  refine RW_d _ rfl (fun v => by dsimp only [List.set]; try rfl) (fun u hu hF => ?_) (fun v27 => ?_)
  · have h8_ : v21 = (Bo β1) := hF.1
    have h13_ : β1 = true → v26 = (Bo β2) := hF.2.1
    clear hF
    refine doesG_un rfl ?_
    skip
    obtain rfl := h8_
    refine (does_pick (b := β1) (u := v26) (v := (Bo false)) (ev rfl) (ev rfl) (ev rfl)).mono ?_; rintro _ _ ⟨rfl, rfl⟩; refine ⟨?_, Ext.refl _⟩; skip
    cases hbb : β1
    all_goals first | (show _ = _; simp only [↓reduceIte, Bool.true_and, Bool.false_and, Bool.true_or, Bool.false_or, Bool.false_eq_true]; done) | (have e_ := h13_ hbb; subst e_; show _ = _; simp only [↓reduceIte, Bool.true_and, Bool.false_and, Bool.true_or, Bool.false_or, Bool.false_eq_true]; done) | rfl | (have e_ := h13_ hbb; subst e_; rfl) | (simp [hbb] at h13_ ⊢; first | done | rfl | (subst h13_; rfl) | simp_all) | (simp [hbb] at h13_ ⊢; done)
  refine RW_d _ rfl (fun v => by dsimp only [List.set]; try rfl) (fun u hu hF => ?_) (fun v28 => ?_)
  · have h14_ : v27 = (Bo (β1 && β2)) := hF.1
    clear hF
    refine doesG_un rfl ?_
    obtain rfl := h14_
    refine (does_move (u := (Bo (β1 && β2))) (ev rfl)).mono ?_; rintro _ _ ⟨rfl, rfl⟩
    exact ⟨rfl, Ext.refl _⟩
  refine RW_d _ rfl (fun v => by dsimp only [List.set]; try rfl) (fun u hu hF => ?_) (fun v29 => ?_)
  · have h15_ : v28 = (Bo (β1 && β2)) := hF.1
    clear hF
    obtain rfl := h15_
    refine doesG_g (b := (β1 && β2)) rfl (yld rfl rfl) (fun hg1 => ?_) (fun hc => ⟨fun hg1 => absurd hg1 hc, Ext.refl _⟩)
    refine (does_fieldAddr (ev rfl) fa40_2).mono ?_; rintro _ _ ⟨rfl, rfl⟩
    exact ⟨fun _ => rfl, Ext.refl _⟩
  refine RW_d _ rfl (fun v => by dsimp only [List.set]; try rfl) (fun u hu hF => ?_) (fun v30 => ?_)
  · have h16_ : (β1 && β2) = true → v29 = (Pt b8 2) := hF.1
    have h15_ : v28 = (Bo (β1 && β2)) := hF.2.1
    clear hF
    obtain rfl := h15_
    refine doesG_g (b := (β1 && β2)) rfl (yld rfl rfl) (fun hg1 => ?_) (fun hc => ⟨fun hg1 => absurd hg1 hc, Ext.refl _⟩)
    obtain rfl := h16_ hg1
    refine (does_load (u := (Fl r5)) (ev rfl) Try.isAgg38 (Cells.at (Blk.cells (hB10.ext hu)) 2 rfl)).mono ?_; rintro _ _ ⟨rfl, rfl⟩
    exact ⟨fun _ => rfl, Ext.refl _⟩
  refine RW_d _ rfl (fun v => by dsimp only [List.set]; try rfl) (fun u hu hF => ?_) (fun v31 => ?_)
  · have h15_ : v28 = (Bo (β1 && β2)) := hF.1
    clear hF
    obtain rfl := h15_
    refine doesG_g (b := (β1 && β2)) rfl (yld rfl rfl) (fun hg1 => ?_) (fun hc => ⟨fun hg1 => absurd hg1 hc, Ext.refl _⟩)
    refine (does_fieldAddr (ev rfl) fa40_2).mono ?_; rintro _ _ ⟨rfl, rfl⟩
    exact ⟨fun _ => rfl, Ext.refl _⟩
  refine RW_d _ rfl (fun v => by dsimp only [List.set]; try rfl) (fun u hu hF => ?_) (fun v32 => ?_)
  · have h18_ : (β1 && β2) = true → v31 = (Pt b8 2) := hF.1
    have h15_ : v28 = (Bo (β1 && β2)) := hF.2.1
    clear hF
    obtain rfl := h15_
    refine doesG_g (b := (β1 && β2)) rfl (yld rfl rfl) (fun hg1 => ?_) (fun hc => ⟨fun hg1 => absurd hg1 hc, Ext.refl _⟩)
    obtain rfl := h18_ hg1
    refine (does_load (u := (Fl r5)) (ev rfl) Try.isAgg38 (Cells.at (Blk.cells (hB10.ext hu)) 2 rfl)).mono ?_; rintro _ _ ⟨rfl, rfl⟩
    exact ⟨fun _ => rfl, Ext.refl _⟩
  refine RW_d _ rfl (fun v => by dsimp only [List.set]; try rfl) (fun u hu hF => ?_) (fun v33 => ?_)
  · have h17_ : (β1 && β2) = true → v30 = (Fl r5) := hF.1
    have h19_ : (β1 && β2) = true → v32 = (Fl r5) := hF.2.1
    have h15_ : v28 = (Bo (β1 && β2)) := hF.2.2.1
    clear hF
    obtain rfl := h15_
    refine doesG_g (b := (β1 && β2)) rfl (yld rfl rfl) (fun hg1 => ?_) (fun hc => ⟨fun hg1 => absurd hg1 hc, Ext.refl _⟩)
    obtain rfl := h17_ hg1
    obtain rfl := h19_ hg1
    refine (does_fcmp (.inl rfl) (ev rfl) (ev rfl)).mono ?_; rintro _ _ ⟨rfl, rfl⟩
    exact ⟨fun _ => (by first | rfl | (show _ = _; simp only [hβ3]; done) | (show _ = _; simp only [hβ3]; rfl)), Ext.refl _⟩
  refine RW_d _ rfl (fun v => by dsimp only [List.set]; try rfl) (fun u hu hF => ?_) (fun v34 => ?_)
  · have h15_ : v28 = (Bo (β1 && β2)) := hF.1
    have h20_ : (β1 && β2) = true → v33 = (Bo β3) := hF.2.1
    clear hF
    refine doesG_un rfl ?_
    skip
    obtain rfl := h15_
    refine (does_pick (b := (β1 && β2)) (u := v33) (v := (Bo false)) (ev rfl) (ev rfl) (ev rfl)).mono ?_; rintro _ _ ⟨rfl, rfl⟩; refine ⟨?_, Ext.refl _⟩; skip
    cases hbb : (β1 && β2)
    all_goals first | (show _ = _; simp only [↓reduceIte, Bool.true_and, Bool.false_and, Bool.true_or, Bool.false_or, Bool.false_eq_true]; done) | (have e_ := h20_ hbb; subst e_; show _ = _; simp only [↓reduceIte, Bool.true_and, Bool.false_and, Bool.true_or, Bool.false_or, Bool.false_eq_true]; done) | rfl | (have e_ := h20_ hbb; subst e_; rfl) | (simp [hbb] at h20_ ⊢; first | done | rfl | (subst h20_; rfl) | simp_all) | (simp [hbb] at h20_ ⊢; done)
  refine RW_d _ rfl (fun v => by dsimp only [List.set]; try rfl) (fun u hu hF => ?_) (fun v35 => ?_)
  · have h21_ : v34 = (Bo ((β1 && β2) && β3)) := hF.1
    clear hF
    refine doesG_un rfl ?_
    obtain rfl := h21_
    refine (does_move (u := (Bo ((β1 && β2) && β3))) (ev rfl)).mono ?_; rintro _ _ ⟨rfl, rfl⟩
    exact ⟨rfl, Ext.refl _⟩
  refine RW_d _ rfl (fun v => by dsimp only [List.set]; try rfl) (fun u hu hF => ?_) (fun v36 => ?_)
  · have h22_ : v35 = (Bo ((β1 && β2) && β3)) := hF.1
    clear hF
    obtain rfl := h22_
    refine doesG_g (b := ((β1 && β2) && β3)) rfl (yld rfl rfl) (fun hg1 => ?_) (fun hc => ⟨fun hg1 => absurd hg1 hc, Ext.refl _⟩)
    refine (does_fieldAddr (ev rfl) fa40_0).mono ?_; rintro _ _ ⟨rfl, rfl⟩
    exact ⟨fun _ => rfl, Ext.refl _⟩
  refine RW_d _ rfl (fun v => by dsimp only [List.set]; try rfl) (fun u hu hF => ?_) (fun v37 => ?_)
  · have h23_ : ((β1 && β2) && β3) = true → v36 = (Pt b8 0) := hF.1
    have h22_ : v35 = (Bo ((β1 && β2) && β3)) := hF.2.1
    clear hF
    obtain rfl := h22_
    refine doesG_g (b := ((β1 && β2) && β3)) rfl (yld rfl rfl) (fun hg1 => ?_) (fun hc => ⟨fun hg1 => absurd hg1 hc, Ext.refl _⟩)
    obtain rfl := h23_ hg1
    refine (does_load (u := (Fl r1)) (ev rfl) Try.isAgg38 (Cells.at (Blk.cells (hB10.ext hu)) 0 rfl)).mono ?_; rintro _ _ ⟨rfl, rfl⟩
    exact ⟨fun _ => rfl, Ext.refl _⟩
  refine RW_d _ rfl (fun v => by dsimp only [List.set]; try rfl) (fun u hu hF => ?_) (fun v38 => ?_)
  · have h24_ : ((β1 && β2) && β3) = true → v37 = (Fl r1) := hF.1
    have h22_ : v35 = (Bo ((β1 && β2) && β3)) := hF.2.1
    clear hF
    obtain rfl := h22_
    refine doesG_g (b := ((β1 && β2) && β3)) rfl (yld rfl rfl) (fun hg1 => ?_) (fun hc => ⟨fun hg1 => absurd hg1 hc, Ext.refl _⟩)
    obtain rfl := h24_ hg1
    refine (does_fcmp (.inr (.inl rfl)) (ev rfl) (ev rfl)).mono ?_; rintro _ _ ⟨rfl, rfl⟩
    exact ⟨fun _ => (by first | rfl | (show _ = _; simp only [hβ4]; done) | (show _ = _; simp only [hβ4]; rfl)), Ext.refl _⟩
  refine RW_d _ rfl (fun v => by dsimp only [List.set]; try rfl) (fun u hu hF => ?_) (fun v39 => ?_)
  · have h25_ : ((β1 && β2) && β3) = true → v38 = (Bo β4) := hF.1
    have h22_ : v35 = (Bo ((β1 && β2) && β3)) := hF.2.1
    clear hF
    obtain rfl := h22_
    refine doesG_g (b := ((β1 && β2) && β3)) rfl (yld rfl rfl) (fun hg1 => ?_) (fun hc => ⟨⟨fun hg1 => absurd hg1 hc, fun _ => rfl⟩, Ext.refl _⟩)
    obtain rfl := h25_ hg1
    refine (does_move (u := (Bo β4)) (ev rfl)).mono ?_; rintro _ _ ⟨rfl, rfl⟩
    exact ⟨⟨fun _ => rfl, fun hn => absurd hg1 hn⟩, Ext.refl _⟩
  refine RW_d _ rfl (fun v => by dsimp only [List.set]; try rfl) (fun u hu hF => ?_) (fun v40 => ?_)
  · have h26_ : (((β1 && β2) && β3) = true → v39 = (Bo β4)) ∧ (¬ (((β1 && β2) && β3) = true) → v39 = undef) := hF.1; have h26u := h26_.2; replace h26_ := h26_.1
    clear hF
    refine doesG_gg (b := β4) (c := ((β1 && β2) && β3) = true) rfl (fun hc => ?_) (fun hc => ?_) (fun hc hg2 => ?_) (fun hc => ⟨fun hg1 hg2 => absurd ⟨hg1, hg2⟩ hc, Ext.refl _⟩)
    · have hg1 := hc; obtain rfl := h26_ hg1; exact yld rfl rfl
    · obtain rfl := h26u hc; exact yldn rfl rfl
    have hg1 := hc
    obtain rfl := h26_ hg1
    refine (does_fieldAddr (ev rfl) fa40_1).mono ?_; rintro _ _ ⟨rfl, rfl⟩
    exact ⟨fun _ _ => rfl, Ext.refl _⟩
  refine RW_d _ rfl (fun v => by dsimp only [List.set]; try rfl) (fun u hu hF => ?_) (fun v41 => ?_)
  · have h27_ : ((β1 && β2) && β3) = true → β4 = false → v40 = (Pt b8 1) := hF.1
    have h26_ : (((β1 && β2) && β3) = true → v39 = (Bo β4)) ∧ (¬ (((β1 && β2) && β3) = true) → v39 = undef) := hF.2.1; have h26u := h26_.2; replace h26_ := h26_.1
    clear hF
    refine doesG_gg (b := β4) (c := ((β1 && β2) && β3) = true) rfl (fun hc => ?_) (fun hc => ?_) (fun hc hg2 => ?_) (fun hc => ⟨fun hg1 hg2 => absurd ⟨hg1, hg2⟩ hc, Ext.refl _⟩)
    · have hg1 := hc; obtain rfl := h26_ hg1; exact yld rfl rfl
    · obtain rfl := h26u hc; exact yldn rfl rfl
    have hg1 := hc
    obtain rfl := h26_ hg1
    obtain rfl := h27_ hg1 hg2
    refine (does_load (u := (Fl r3)) (ev rfl) Try.isAgg38 (Cells.at (Blk.cells (hB10.ext hu)) 1 rfl)).mono ?_; rintro _ _ ⟨rfl, rfl⟩
    exact ⟨fun _ _ => rfl, Ext.refl _⟩
  refine RW_d _ rfl (fun v => by dsimp only [List.set]; try rfl) (fun u hu hF => ?_) (fun v42 => ?_)
  · have h28_ : ((β1 && β2) && β3) = true → β4 = false → v41 = (Fl r3) := hF.1
    have h26_ : (((β1 && β2) && β3) = true → v39 = (Bo β4)) ∧ (¬ (((β1 && β2) && β3) = true) → v39 = undef) := hF.2.1; have h26u := h26_.2; replace h26_ := h26_.1
    clear hF
    refine doesG_gg (b := β4) (c := ((β1 && β2) && β3) = true) rfl (fun hc => ?_) (fun hc => ?_) (fun hc hg2 => ?_) (fun hc => ⟨fun hg1 hg2 => absurd ⟨hg1, hg2⟩ hc, Ext.refl _⟩)
    · have hg1 := hc; obtain rfl := h26_ hg1; exact yld rfl rfl
    · obtain rfl := h26u hc; exact yldn rfl rfl
    have hg1 := hc
    obtain rfl := h26_ hg1
    obtain rfl := h28_ hg1 hg2
    refine (does_fcmp (.inr (.inl rfl)) (ev rfl) (ev rfl)).mono ?_; rintro _ _ ⟨rfl, rfl⟩
    exact ⟨fun _ _ => (by first | rfl | (show _ = _; simp only [hβ5]; done) | (show _ = _; simp only [hβ5]; rfl)), Ext.refl _⟩
  refine RW_d _ rfl (fun v => by dsimp only [List.set]; try rfl) (fun u hu hF => ?_) (fun v43 => ?_)
  · have h26_ : (((β1 && β2) && β3) = true → v39 = (Bo β4)) ∧ (¬ (((β1 && β2) && β3) = true) → v39 = undef) := hF.1; have h26u := h26_.2; replace h26_ := h26_.1
    have h29_ : ((β1 && β2) && β3) = true → β4 = false → v42 = (Bo β5) := hF.2.1
    have h22_ : v35 = (Bo ((β1 && β2) && β3)) := hF.2.2.1
    clear hF
    obtain rfl := h22_
    refine doesG_g (b := ((β1 && β2) && β3)) rfl (yld rfl rfl) (fun hg1 => ?_) (fun hc => ⟨fun hg1 => absurd hg1 hc, Ext.refl _⟩)
    skip
    obtain rfl := h26_ hg1
    replace h29_ := h29_ hg1
    refine (does_pick (b := β4) (u := (Bo true)) (v := v42) (ev rfl) (ev rfl) (ev rfl)).mono ?_; rintro _ _ ⟨rfl, rfl⟩; refine ⟨fun _ => ?_, Ext.refl _⟩; skip
    cases hbb : β4
    all_goals first | (show _ = _; simp only [↓reduceIte, Bool.true_and, Bool.false_and, Bool.true_or, Bool.false_or, Bool.false_eq_true]; done) | (have e_ := h29_ hbb; subst e_; show _ = _; simp only [↓reduceIte, Bool.true_and, Bool.false_and, Bool.true_or, Bool.false_or, Bool.false_eq_true]; done) | rfl | (have e_ := h29_ hbb; subst e_; rfl) | (simp [hbb] at h29_ ⊢; first | done | rfl | (subst h29_; rfl) | simp_all) | (simp [hbb] at h29_ ⊢; done)
  refine RW_d _ rfl (fun v => by dsimp only [List.set]; try rfl) (fun u hu hF => ?_) (fun v44 => ?_)
  · have h30_ : ((β1 && β2) && β3) = true → v43 = (Bo (β4 || β5)) := hF.1
    have h22_ : v35 = (Bo ((β1 && β2) && β3)) := hF.2.1
    clear hF
    obtain rfl := h22_
    refine doesG_g (b := ((β1 && β2) && β3)) rfl (yld rfl rfl) (fun hg1 => ?_) (fun hc => ⟨⟨fun hg1 => absurd hg1 hc, fun _ => rfl⟩, Ext.refl _⟩)
    obtain rfl := h30_ hg1
    refine (does_move (u := (Bo (β4 || β5))) (ev rfl)).mono ?_; rintro _ _ ⟨rfl, rfl⟩
    exact ⟨⟨fun _ => rfl, fun hn => absurd hg1 hn⟩, Ext.refl _⟩
  refine RW_d _ rfl (fun v => by dsimp only [List.set]; try rfl) (fun u hu hF => ?_) (fun v45 => ?_)
  · have h31_ : (((β1 && β2) && β3) = true → v44 = (Bo (β4 || β5))) ∧ (¬ (((β1 && β2) && β3) = true) → v44 = undef) := hF.1; have h31u := h31_.2; replace h31_ := h31_.1
    clear hF
    refine doesG_gg (b := (β4 || β5)) (c := ((β1 && β2) && β3) = true) rfl (fun hc => ?_) (fun hc => ?_) (fun hc hg2 => ?_) (fun hc => ⟨fun hg1 hg2 => absurd ⟨hg1, hg2⟩ hc, Ext.refl _⟩)
    · have hg1 := hc; obtain rfl := h31_ hg1; exact yld rfl rfl
    · obtain rfl := h31u hc; exact yldn rfl rfl
    have hg1 := hc
    obtain rfl := h31_ hg1
    refine (does_fieldAddr (ev rfl) fa40_2).mono ?_; rintro _ _ ⟨rfl, rfl⟩
    exact ⟨fun _ _ => rfl, Ext.refl _⟩
  refine RW_d _ rfl (fun v => by dsimp only [List.set]; try rfl) (fun u hu hF => ?_) (fun v46 => ?_)
  · have h32_ : ((β1 && β2) && β3) = true → (β4 || β5) = false → v45 = (Pt b8 2) := hF.1
    have h31_ : (((β1 && β2) && β3) = true → v44 = (Bo (β4 || β5))) ∧ (¬ (((β1 && β2) && β3) = true) → v44 = undef) := hF.2.1; have h31u := h31_.2; replace h31_ := h31_.1
    clear hF
    refine doesG_gg (b := (β4 || β5)) (c := ((β1 && β2) && β3) = true) rfl (fun hc => ?_) (fun hc => ?_) (fun hc hg2 => ?_) (fun hc => ⟨fun hg1 hg2 => absurd ⟨hg1, hg2⟩ hc, Ext.refl _⟩)
    · have hg1 := hc; obtain rfl := h31_ hg1; exact yld rfl rfl
    · obtain rfl := h31u hc; exact yldn rfl rfl
    have hg1 := hc
    obtain rfl := h31_ hg1
    obtain rfl := h32_ hg1 hg2
    refine (does_load (u := (Fl r5)) (ev rfl) Try.isAgg38 (Cells.at (Blk.cells (hB10.ext hu)) 2 rfl)).mono ?_; rintro _ _ ⟨rfl, rfl⟩
    exact ⟨fun _ _ => rfl, Ext.refl _⟩
  refine RW_d _ rfl (fun v => by dsimp only [List.set]; try rfl) (fun u hu hF => ?_) (fun v47 => ?_)
  · have h33_ : ((β1 && β2) && β3) = true → (β4 || β5) = false → v46 = (Fl r5) := hF.1
    have h31_ : (((β1 && β2) && β3) = true → v44 = (Bo (β4 || β5))) ∧ (¬ (((β1 && β2) && β3) = true) → v44 = undef) := hF.2.1; have h31u := h31_.2; replace h31_ := h31_.1
    clear hF
    refine doesG_gg (b := (β4 || β5)) (c := ((β1 && β2) && β3) = true) rfl (fun hc => ?_) (fun hc => ?_) (fun hc hg2 => ?_) (fun hc => ⟨fun hg1 hg2 => absurd ⟨hg1, hg2⟩ hc, Ext.refl _⟩)
    · have hg1 := hc; obtain rfl := h31_ hg1; exact yld rfl rfl
    · obtain rfl := h31u hc; exact yldn rfl rfl
    have hg1 := hc
    obtain rfl := h31_ hg1
    obtain rfl := h33_ hg1 hg2
    refine (does_fcmp (.inr (.inl rfl)) (ev rfl) (ev rfl)).mono ?_; rintro _ _ ⟨rfl, rfl⟩
    exact ⟨fun _ _ => (by first | rfl | (show _ = _; simp only [hβ6]; done) | (show _ = _; simp only [hβ6]; rfl)), Ext.refl _⟩
  refine RW_d _ rfl (fun v => by dsimp only [List.set]; try rfl) (fun u hu hF => ?_) (fun v48 => ?_)
  · have h31_ : (((β1 && β2) && β3) = true → v44 = (Bo (β4 || β5))) ∧ (¬ (((β1 && β2) && β3) = true) → v44 = undef) := hF.1; have h31u := h31_.2; replace h31_ := h31_.1
    have h34_ : ((β1 && β2) && β3) = true → (β4 || β5) = false → v47 = (Bo β6) := hF.2.1
    have h22_ : v35 = (Bo ((β1 && β2) && β3)) := hF.2.2.1
    clear hF
    obtain rfl := h22_
    refine doesG_g (b := ((β1 && β2) && β3)) rfl (yld rfl rfl) (fun hg1 => ?_) (fun hc => ⟨fun hg1 => absurd hg1 hc, Ext.refl _⟩)
    skip
    obtain rfl := h31_ hg1
    replace h34_ := h34_ hg1
    refine (does_pick (b := (β4 || β5)) (u := (Bo true)) (v := v47) (ev rfl) (ev rfl) (ev rfl)).mono ?_; rintro _ _ ⟨rfl, rfl⟩; refine ⟨fun _ => ?_, Ext.refl _⟩; skip
    cases hbb : (β4 || β5)
    all_goals first | (show _ = _; simp only [↓reduceIte, Bool.true_and, Bool.false_and, Bool.true_or, Bool.false_or, Bool.false_eq_true]; done) | (have e_ := h34_ hbb; subst e_; show _ = _; simp only [↓reduceIte, Bool.true_and, Bool.false_and, Bool.true_or, Bool.false_or, Bool.false_eq_true]; done) | rfl | (have e_ := h34_ hbb; subst e_; rfl) | (simp [hbb] at h34_ ⊢; first | done | rfl | (subst h34_; rfl) | simp_all) | (simp [hbb] at h34_ ⊢; done)
  refine RW_d _ rfl (fun v => by dsimp only [List.set]; try rfl) (fun u hu hF => ?_) (fun v49 => ?_)
  · have h22_ : v35 = (Bo ((β1 && β2) && β3)) := hF.1
    have h35_ : ((β1 && β2) && β3) = true → v48 = (Bo ((β4 || β5) || β6)) := hF.2.1
    clear hF
    refine doesG_un rfl ?_
    skip
    obtain rfl := h22_
    refine (does_pick (b := ((β1 && β2) && β3)) (u := v48) (v := (Bo false)) (ev rfl) (ev rfl) (ev rfl)).mono ?_; rintro _ _ ⟨rfl, rfl⟩; refine ⟨?_, Ext.refl _⟩; rw [hβ7]; skip
    cases hbb : ((β1 && β2) && β3)
    all_goals first | (show _ = _; simp only [↓reduceIte, Bool.true_and, Bool.false_and, Bool.true_or, Bool.false_or, Bool.false_eq_true]; done) | (have e_ := h35_ hbb; subst e_; show _ = _; simp only [↓reduceIte, Bool.true_and, Bool.false_and, Bool.true_or, Bool.false_or, Bool.false_eq_true]; done) | rfl | (have e_ := h35_ hbb; subst e_; rfl) | (simp [hbb] at h35_ ⊢; first | done | rfl | (subst h35_; rfl) | simp_all) | (simp [hbb] at h35_ ⊢; done)
  refine RW_fin ?_; intro w50 E51 hP52
  obtain ⟨⟨⟨⟨⟨⟨⟨⟨⟨⟨⟨⟨⟨⟨⟨⟨⟨⟨⟨⟨⟨⟨⟨⟨⟨⟨⟨⟨⟨⟨⟨⟨⟨⟨-, -⟩, -⟩, -⟩, -⟩, -⟩, -⟩, -⟩, -⟩, -⟩, -⟩, -⟩, -⟩, -⟩, -⟩, -⟩, -⟩, -⟩, -⟩, -⟩, -⟩, -⟩, -⟩, -⟩, -⟩, -⟩, -⟩, -⟩, -⟩, -⟩, -⟩, -⟩, -⟩, -⟩, q53⟩ := hP52
  have X54 := Ext.gr X14 E51
  have q53 : v49 = (Bo β7) := q53
  obtain rfl := q53
  show wpList _ _ _ _ (fr [_, _, _, _, _, _, _, _, _, _, _, _, _, _, _, _, _, _, _, _, _, _, _, _, _, _, _, _, _, _, _, _, _, _, _, _, _]) _
  refine q_is rfl rfl (does_assign (u := (Bo β7)) (ev rfl)) (by dsimp only [List.set]; try rfl) ?_
  refine wpList_nil (hK15 _ _ ?_)
  refine wp_ret ?_
  refine ret_val (v := (Bo β7)) (res_T rfl (slot rfl)) X54 ?_
  have x55 : (someV A_v) = β7 := by first | with_reducible rfl | (simp only [someV, numF, h2, h4, h6, hβ1, hβ2, hβ3, hβ4, hβ5, hβ6, hβ7]; done) | (simp [someV, numF, h2, h4, h6, hβ1, hβ2, hβ3, hβ4, hβ5, hβ6, hβ7]; done) | rfl
  exact (by first | with_reducible rfl | rw [x55] | rfl)

/- spec.l09Is -/
theorem c_spec_l09Is (c_b : Nat) (c_o : Nat) (c : List Value) (A_c : CamT) (w : World) (hc_c : Cells w c_b c_o c) (hv_c : RCamT w A_c c) : Gives Try.prog 72 #[(Pt c_b c_o)] w (fun v w' => v = (Bo (isCam A_c))) := by
  obtain ⟨r1, r3, r5, r7, r9, r11, r13, rfl, h2, h4, h6, h8, h10, h12, h14⟩ := hv_c
  refine enter [(Pt c_b c_o), Ud, Ud, Ud, Ud, Ud, Ud, Ud, Ud, Ud, Ud, Ud, Ud, Ud, Ud, Ud, Ud, Ud, Ud, Ud, Ud, Ud, Ud, Ud, Ud, Ud, Ud, Ud, Ud, Ud, Ud, Ud, Ud, Ud, Ud, Ud, Ud, Ud, Ud, Ud, Ud, Ud, Ud, Ud, Ud, Ud, Ud, Ud, Ud, Ud, Ud, Ud, Ud, Ud, Ud, Ud] Try.func72 rfl Try.ntmps72 rfl ?_
  refine wp_seq_k fun K15 hK15 => ?_
  refine wp_region_lit ?_
  refine q_is rfl rfl (does_assign (u := (Bo false)) (ev rfl)) (by dsimp only [List.set]; try rfl) ?_
  refine wpList_nil (hK15 _ _ ?_)
  refine wp_seq_k fun K16 hK16 => ?_
  refine wp_seq_k fun K17 hK17 => ?_
  obtain ⟨β1, hβ1⟩ : ∃ b : Bool, b = ((!(inI A_c.width 1 12)) || (!(inI A_c.height 1 12))) := ⟨_, rfl⟩
  obtain ⟨β2, hβ2⟩ : ∃ b : Bool, b = (finF (cf .f32 r13) && posF (cf .f32 r13)) := ⟨_, rfl⟩
  obtain ⟨β3, hβ3⟩ : ∃ b : Bool, b = ((β1 || (!β2)) || (!(finV A_c.frm))) := ⟨_, rfl⟩
  refine region_text (
    [Fact.pure [] (fun v => v = (Pt c_b c_o)),
    Fact.pure [6] (fun v => v = (Pt c_b c_o)),
    Fact.pure [7] (fun v => v = (Pt c_b (c_o + 7))),
    Fact.pure [8] (fun v => v = (Iv A_c.width)),
    Fact.pure [9] (fun v => v = (Bo (inI A_c.width 1 12))),
    Fact.pure [10] (fun v => v = (Bo (!(inI A_c.width 1 12)))),
    Fact.pure [11] (fun v => v = (Bo (!(inI A_c.width 1 12)))),
    Fact.pure [12] (fun v => (!(inI A_c.width 1 12)) = false → v = (Pt c_b c_o)),
    Fact.pure [13, 12] (fun v => (!(inI A_c.width 1 12)) = false → v = (Pt c_b c_o)),
    Fact.pure [14, 12] (fun v => (!(inI A_c.width 1 12)) = false → v = (Pt c_b (c_o + 8))),
    Fact.pure [15, 12] (fun v => (!(inI A_c.width 1 12)) = false → v = (Iv A_c.height)),
    Fact.pure [16, 12] (fun v => (!(inI A_c.width 1 12)) = false → v = (Bo (inI A_c.height 1 12))),
    Fact.pure [17, 12] (fun v => (!(inI A_c.width 1 12)) = false → v = (Bo (!(inI A_c.height 1 12)))),
    Fact.pure [12, 18] (fun v => v = (Bo β1)),
    Fact.pure [19] (fun v => v = (Bo β1)),
    Fact.pure [20] (fun v => β1 = false → v = (Pt c_b c_o)),
    Fact.pure [21, 20] (fun v => β1 = false → v = (Pt c_b c_o)),
    Fact.pure [22, 20] (fun v => β1 = false → v = (Pt c_b (c_o + 6))),
    Fact.pure [23, 20] (fun v => β1 = false → v = (Fl r13)),
    Fact.pure [24, 20] (fun v => β1 = false → v = (Bo β2)),
    Fact.pure [25, 20] (fun v => β1 = false → v = (Bo (!β2))),
    Fact.pure [20, 26] (fun v => v = (Bo (β1 || (!β2)))),
    Fact.pure [27] (fun v => v = (Bo (β1 || (!β2)))),
    Fact.pure [28] (fun v => (β1 || (!β2)) = false → v = (Pt c_b c_o)),
    Fact.pure [29, 28] (fun v => (β1 || (!β2)) = false → v = (Pt c_b c_o)),
    Fact.pure [30, 28] (fun v => (β1 || (!β2)) = false → v = (Pt c_b c_o)),
    Fact.pure [31, 28] (fun v => (β1 || (!β2)) = false → v = (.agg #[(Fl r1), (Fl r3), (Fl r5)])),
    Fact.pure [32, 28] (fun v => (β1 || (!β2)) = false → v = (Bo (finV A_c.frm))),
    Fact.pure [33, 28] (fun v => (β1 || (!β2)) = false → v = (Bo (!(finV A_c.frm)))),
    Fact.pure [28, 34] (fun v => v = (Bo β3)),
    Fact.pure [35] (fun v => v = (Bo β3)),
    Fact.pure [36] (fun v => β3 = false → v = (Pt c_b c_o)),
    Fact.pure [37, 36] (fun v => β3 = false → v = (Pt c_b c_o)),
    Fact.pure [38, 36] (fun v => β3 = false → v = (Pt c_b (c_o + 3))),
    Fact.pure [39, 36] (fun v => β3 = false → v = (.agg #[(Fl r7), (Fl r9), (Fl r11)])),
    Fact.pure [40, 36] (fun v => β3 = false → v = (Bo (finV A_c.to))),
    Fact.pure [41, 36] (fun v => β3 = false → v = (Bo (!(finV A_c.to)))),
    Fact.pure [36, 42] (fun v => v = (Bo (β3 || (!(finV A_c.to)))))]) (by simp [Fact.pure, Fact.mem]) ?_
  refine RW_d _ rfl (fun v => by dsimp only [List.set]; try rfl) (fun u hu hF => ?_) (fun v18 => ?_)
  · clear hF
    refine doesG_un rfl ?_
    refine (does_move (u := (Pt c_b c_o)) (ev rfl)).mono ?_; rintro _ _ ⟨rfl, rfl⟩
    exact ⟨rfl, Ext.refl _⟩
  refine RW_d _ rfl (fun v => by dsimp only [List.set]; try rfl) (fun u hu hF => ?_) (fun v19 => ?_)
  · have h6_ : v18 = (Pt c_b c_o) := hF.1
    clear hF
    refine doesG_un rfl ?_
    obtain rfl := h6_
    refine (does_nilCheck (ev rfl)).mono ?_; rintro _ _ ⟨rfl, rfl⟩
    exact ⟨rfl, Ext.refl _⟩
  refine RW_d _ rfl (fun v => by dsimp only [List.set]; try rfl) (fun u hu hF => ?_) (fun v20 => ?_)
  · have h7_ : v19 = (Pt c_b c_o) := hF.1
    clear hF
    refine doesG_un rfl ?_
    obtain rfl := h7_
    refine (does_fieldAddr (ev rfl) fa60_3).mono ?_; rintro _ _ ⟨rfl, rfl⟩
    exact ⟨rfl, Ext.refl _⟩
  refine RW_d _ rfl (fun v => by dsimp only [List.set]; try rfl) (fun u hu hF => ?_) (fun v21 => ?_)
  · have h8_ : v20 = (Pt c_b (c_o + 7)) := hF.1
    clear hF
    refine doesG_un rfl ?_
    obtain rfl := h8_
    refine (does_load (u := (Iv A_c.width)) (ev rfl) Try.isAgg2 (Cells.at (hc_c.ext hu) 7 rfl)).mono ?_; rintro _ _ ⟨rfl, rfl⟩
    exact ⟨rfl, Ext.refl _⟩
  refine RW_d _ rfl (fun v => by dsimp only [List.set]; try rfl) (fun u hu hF => ?_) (fun v22 => ?_)
  · have h9_ : v21 = (Iv A_c.width) := hF.1
    clear hF
    refine doesG_un rfl ?_
    obtain rfl := h9_
    refine (does_call (args := #[(Iv A_c.width), (Iv 1), (Iv 12)]) cal66 (evs rfl) (c_spec_l00In A_c.width 1 12 _)).mono ?_; rintro v u' ⟨hx, hv⟩
    exact ⟨hv, hx⟩
  refine RW_d _ rfl (fun v => by dsimp only [List.set]; try rfl) (fun u hu hF => ?_) (fun v23 => ?_)
  · have h10_ : v22 = (Bo (inI A_c.width 1 12)) := hF.1
    clear hF
    refine doesG_un rfl ?_
    obtain rfl := h10_
    refine (does_not (ev rfl)).mono ?_; rintro _ _ ⟨rfl, rfl⟩
    exact ⟨rfl, Ext.refl _⟩
  refine RW_d _ rfl (fun v => by dsimp only [List.set]; try rfl) (fun u hu hF => ?_) (fun v24 => ?_)
  · have h11_ : v23 = (Bo (!(inI A_c.width 1 12))) := hF.1
    clear hF
    refine doesG_un rfl ?_
    obtain rfl := h11_
    refine (does_move (u := (Bo (!(inI A_c.width 1 12)))) (ev rfl)).mono ?_; rintro _ _ ⟨rfl, rfl⟩
    exact ⟨rfl, Ext.refl _⟩
  refine RW_d _ rfl (fun v => by dsimp only [List.set]; try rfl) (fun u hu hF => ?_) (fun v25 => ?_)
  · have h12_ : v24 = (Bo (!(inI A_c.width 1 12))) := hF.1
    clear hF
    obtain rfl := h12_
    refine doesG_g (b := (!(inI A_c.width 1 12))) rfl (yld rfl rfl) (fun hg1 => ?_) (fun hc => ⟨fun hg1 => absurd hg1 hc, Ext.refl _⟩)
    refine (does_move (u := (Pt c_b c_o)) (ev rfl)).mono ?_; rintro _ _ ⟨rfl, rfl⟩
    exact ⟨fun _ => rfl, Ext.refl _⟩
  refine RW_d _ rfl (fun v => by dsimp only [List.set]; try rfl) (fun u hu hF => ?_) (fun v26 => ?_)
  · have h13_ : (!(inI A_c.width 1 12)) = false → v25 = (Pt c_b c_o) := hF.1
    have h12_ : v24 = (Bo (!(inI A_c.width 1 12))) := hF.2.1
    clear hF
    obtain rfl := h12_
    refine doesG_g (b := (!(inI A_c.width 1 12))) rfl (yld rfl rfl) (fun hg1 => ?_) (fun hc => ⟨fun hg1 => absurd hg1 hc, Ext.refl _⟩)
    obtain rfl := h13_ hg1
    refine (does_nilCheck (ev rfl)).mono ?_; rintro _ _ ⟨rfl, rfl⟩
    exact ⟨fun _ => rfl, Ext.refl _⟩
  refine RW_d _ rfl (fun v => by dsimp only [List.set]; try rfl) (fun u hu hF => ?_) (fun v27 => ?_)
  · have h14_ : (!(inI A_c.width 1 12)) = false → v26 = (Pt c_b c_o) := hF.1
    have h12_ : v24 = (Bo (!(inI A_c.width 1 12))) := hF.2.1
    clear hF
    obtain rfl := h12_
    refine doesG_g (b := (!(inI A_c.width 1 12))) rfl (yld rfl rfl) (fun hg1 => ?_) (fun hc => ⟨fun hg1 => absurd hg1 hc, Ext.refl _⟩)
    obtain rfl := h14_ hg1
    refine (does_fieldAddr (ev rfl) fa60_4).mono ?_; rintro _ _ ⟨rfl, rfl⟩
    exact ⟨fun _ => rfl, Ext.refl _⟩
  refine RW_d _ rfl (fun v => by dsimp only [List.set]; try rfl) (fun u hu hF => ?_) (fun v28 => ?_)
  · have h15_ : (!(inI A_c.width 1 12)) = false → v27 = (Pt c_b (c_o + 8)) := hF.1
    have h12_ : v24 = (Bo (!(inI A_c.width 1 12))) := hF.2.1
    clear hF
    obtain rfl := h12_
    refine doesG_g (b := (!(inI A_c.width 1 12))) rfl (yld rfl rfl) (fun hg1 => ?_) (fun hc => ⟨fun hg1 => absurd hg1 hc, Ext.refl _⟩)
    obtain rfl := h15_ hg1
    refine (does_load (u := (Iv A_c.height)) (ev rfl) Try.isAgg2 (Cells.at (hc_c.ext hu) 8 rfl)).mono ?_; rintro _ _ ⟨rfl, rfl⟩
    exact ⟨fun _ => rfl, Ext.refl _⟩
  refine RW_d _ rfl (fun v => by dsimp only [List.set]; try rfl) (fun u hu hF => ?_) (fun v29 => ?_)
  · have h16_ : (!(inI A_c.width 1 12)) = false → v28 = (Iv A_c.height) := hF.1
    have h12_ : v24 = (Bo (!(inI A_c.width 1 12))) := hF.2.1
    clear hF
    obtain rfl := h12_
    refine doesG_g (b := (!(inI A_c.width 1 12))) rfl (yld rfl rfl) (fun hg1 => ?_) (fun hc => ⟨fun hg1 => absurd hg1 hc, Ext.refl _⟩)
    obtain rfl := h16_ hg1
    refine (does_call (args := #[(Iv A_c.height), (Iv 1), (Iv 12)]) cal66 (evs rfl) (c_spec_l00In A_c.height 1 12 _)).mono ?_; rintro v u' ⟨hx, hv⟩
    exact ⟨fun _ => hv, hx⟩
  refine RW_d _ rfl (fun v => by dsimp only [List.set]; try rfl) (fun u hu hF => ?_) (fun v30 => ?_)
  · have h17_ : (!(inI A_c.width 1 12)) = false → v29 = (Bo (inI A_c.height 1 12)) := hF.1
    have h12_ : v24 = (Bo (!(inI A_c.width 1 12))) := hF.2.1
    clear hF
    obtain rfl := h12_
    refine doesG_g (b := (!(inI A_c.width 1 12))) rfl (yld rfl rfl) (fun hg1 => ?_) (fun hc => ⟨fun hg1 => absurd hg1 hc, Ext.refl _⟩)
    obtain rfl := h17_ hg1
    refine (does_not (ev rfl)).mono ?_; rintro _ _ ⟨rfl, rfl⟩
    exact ⟨fun _ => rfl, Ext.refl _⟩
  refine RW_d _ rfl (fun v => by dsimp only [List.set]; try rfl) (fun u hu hF => ?_) (fun v31 => ?_)
  · have h12_ : v24 = (Bo (!(inI A_c.width 1 12))) := hF.1
    have h18_ : (!(inI A_c.width 1 12)) = false → v30 = (Bo (!(inI A_c.height 1 12))) := hF.2.1
    clear hF
    refine doesG_un rfl ?_
    skip
    obtain rfl := h12_
    refine (does_pick (b := (!(inI A_c.width 1 12))) (u := (Bo true)) (v := v30) (ev rfl) (ev rfl) (ev rfl)).mono ?_; rintro _ _ ⟨rfl, rfl⟩; refine ⟨?_, Ext.refl _⟩; rw [hβ1]; skip
    cases hbb : (!(inI A_c.width 1 12))
    all_goals first | (show _ = _; simp only [↓reduceIte, Bool.true_and, Bool.false_and, Bool.true_or, Bool.false_or, Bool.false_eq_true]; done) | (have e_ := h18_ hbb; subst e_; show _ = _; simp only [↓reduceIte, Bool.true_and, Bool.false_and, Bool.true_or, Bool.false_or, Bool.false_eq_true]; done) | rfl | (have e_ := h18_ hbb; subst e_; rfl) | (simp [hbb] at h18_ ⊢; first | done | rfl | (subst h18_; rfl) | simp_all) | (simp [hbb] at h18_ ⊢; done)
  refine RW_d _ rfl (fun v => by dsimp only [List.set]; try rfl) (fun u hu hF => ?_) (fun v32 => ?_)
  · have h19_ : v31 = (Bo β1) := hF.1
    clear hF
    refine doesG_un rfl ?_
    obtain rfl := h19_
    refine (does_move (u := (Bo β1)) (ev rfl)).mono ?_; rintro _ _ ⟨rfl, rfl⟩
    exact ⟨rfl, Ext.refl _⟩
  refine RW_d _ rfl (fun v => by dsimp only [List.set]; try rfl) (fun u hu hF => ?_) (fun v33 => ?_)
  · have h20_ : v32 = (Bo β1) := hF.1
    clear hF
    obtain rfl := h20_
    refine doesG_g (b := β1) rfl (yld rfl rfl) (fun hg1 => ?_) (fun hc => ⟨fun hg1 => absurd hg1 hc, Ext.refl _⟩)
    refine (does_move (u := (Pt c_b c_o)) (ev rfl)).mono ?_; rintro _ _ ⟨rfl, rfl⟩
    exact ⟨fun _ => rfl, Ext.refl _⟩
  refine RW_d _ rfl (fun v => by dsimp only [List.set]; try rfl) (fun u hu hF => ?_) (fun v34 => ?_)
  · have h21_ : β1 = false → v33 = (Pt c_b c_o) := hF.1
    have h20_ : v32 = (Bo β1) := hF.2.1
    clear hF
    obtain rfl := h20_
    refine doesG_g (b := β1) rfl (yld rfl rfl) (fun hg1 => ?_) (fun hc => ⟨fun hg1 => absurd hg1 hc, Ext.refl _⟩)
    obtain rfl := h21_ hg1
    refine (does_nilCheck (ev rfl)).mono ?_; rintro _ _ ⟨rfl, rfl⟩
    exact ⟨fun _ => rfl, Ext.refl _⟩
  refine RW_d _ rfl (fun v => by dsimp only [List.set]; try rfl) (fun u hu hF => ?_) (fun v35 => ?_)
  · have h22_ : β1 = false → v34 = (Pt c_b c_o) := hF.1
    have h20_ : v32 = (Bo β1) := hF.2.1
    clear hF
    obtain rfl := h20_
    refine doesG_g (b := β1) rfl (yld rfl rfl) (fun hg1 => ?_) (fun hc => ⟨fun hg1 => absurd hg1 hc, Ext.refl _⟩)
    obtain rfl := h22_ hg1
    refine (does_fieldAddr (ev rfl) fa60_2).mono ?_; rintro _ _ ⟨rfl, rfl⟩
    exact ⟨fun _ => rfl, Ext.refl _⟩
  refine RW_d _ rfl (fun v => by dsimp only [List.set]; try rfl) (fun u hu hF => ?_) (fun v36 => ?_)
  · have h23_ : β1 = false → v35 = (Pt c_b (c_o + 6)) := hF.1
    have h20_ : v32 = (Bo β1) := hF.2.1
    clear hF
    obtain rfl := h20_
    refine doesG_g (b := β1) rfl (yld rfl rfl) (fun hg1 => ?_) (fun hc => ⟨fun hg1 => absurd hg1 hc, Ext.refl _⟩)
    obtain rfl := h23_ hg1
    refine (does_load (u := (Fl r13)) (ev rfl) Try.isAgg38 (Cells.at (hc_c.ext hu) 6 rfl)).mono ?_; rintro _ _ ⟨rfl, rfl⟩
    exact ⟨fun _ => rfl, Ext.refl _⟩
  refine RW_d _ rfl (fun v => by dsimp only [List.set]; try rfl) (fun u hu hF => ?_) (fun v37 => ?_)
  · have h24_ : β1 = false → v36 = (Fl r13) := hF.1
    have h20_ : v32 = (Bo β1) := hF.2.1
    clear hF
    obtain rfl := h20_
    refine doesG_g (b := β1) rfl (yld rfl rfl) (fun hg1 => ?_) (fun hc => ⟨fun hg1 => absurd hg1 hc, Ext.refl _⟩)
    obtain rfl := h24_ hg1
    refine (does_call (args := #[(Fl r13)]) cal93 (evs rfl) (c_spec_l03Positive r13 _)).mono ?_; rintro v u' ⟨hx, hv⟩
    exact ⟨fun _ => hv.trans (by simp only [hβ2]), hx⟩
  refine RW_d _ rfl (fun v => by dsimp only [List.set]; try rfl) (fun u hu hF => ?_) (fun v38 => ?_)
  · have h25_ : β1 = false → v37 = (Bo β2) := hF.1
    have h20_ : v32 = (Bo β1) := hF.2.1
    clear hF
    obtain rfl := h20_
    refine doesG_g (b := β1) rfl (yld rfl rfl) (fun hg1 => ?_) (fun hc => ⟨fun hg1 => absurd hg1 hc, Ext.refl _⟩)
    obtain rfl := h25_ hg1
    refine (does_not (ev rfl)).mono ?_; rintro _ _ ⟨rfl, rfl⟩
    exact ⟨fun _ => rfl, Ext.refl _⟩
  refine RW_d _ rfl (fun v => by dsimp only [List.set]; try rfl) (fun u hu hF => ?_) (fun v39 => ?_)
  · have h20_ : v32 = (Bo β1) := hF.1
    have h26_ : β1 = false → v38 = (Bo (!β2)) := hF.2.1
    clear hF
    refine doesG_un rfl ?_
    skip
    obtain rfl := h20_
    refine (does_pick (b := β1) (u := (Bo true)) (v := v38) (ev rfl) (ev rfl) (ev rfl)).mono ?_; rintro _ _ ⟨rfl, rfl⟩; refine ⟨?_, Ext.refl _⟩; skip
    cases hbb : β1
    all_goals first | (show _ = _; simp only [↓reduceIte, Bool.true_and, Bool.false_and, Bool.true_or, Bool.false_or, Bool.false_eq_true]; done) | (have e_ := h26_ hbb; subst e_; show _ = _; simp only [↓reduceIte, Bool.true_and, Bool.false_and, Bool.true_or, Bool.false_or, Bool.false_eq_true]; done) | rfl | (have e_ := h26_ hbb; subst e_; rfl) | (simp [hbb] at h26_ ⊢; first | done | rfl | (subst h26_; rfl) | simp_all) | (simp [hbb] at h26_ ⊢; done)
  refine RW_d _ rfl (fun v => by dsimp only [List.set]; try rfl) (fun u hu hF => ?_) (fun v40 => ?_)
  · have h27_ : v39 = (Bo (β1 || (!β2))) := hF.1
    clear hF
    refine doesG_un rfl ?_
    obtain rfl := h27_
    refine (does_move (u := (Bo (β1 || (!β2)))) (ev rfl)).mono ?_; rintro _ _ ⟨rfl, rfl⟩
    exact ⟨rfl, Ext.refl _⟩
  refine RW_d _ rfl (fun v => by dsimp only [List.set]; try rfl) (fun u hu hF => ?_) (fun v41 => ?_)
  · have h28_ : v40 = (Bo (β1 || (!β2))) := hF.1
    clear hF
    obtain rfl := h28_
    refine doesG_g (b := (β1 || (!β2))) rfl (yld rfl rfl) (fun hg1 => ?_) (fun hc => ⟨fun hg1 => absurd hg1 hc, Ext.refl _⟩)
    refine (does_move (u := (Pt c_b c_o)) (ev rfl)).mono ?_; rintro _ _ ⟨rfl, rfl⟩
    exact ⟨fun _ => rfl, Ext.refl _⟩
  refine RW_d _ rfl (fun v => by dsimp only [List.set]; try rfl) (fun u hu hF => ?_) (fun v42 => ?_)
  · have h29_ : (β1 || (!β2)) = false → v41 = (Pt c_b c_o) := hF.1
    have h28_ : v40 = (Bo (β1 || (!β2))) := hF.2.1
    clear hF
    obtain rfl := h28_
    refine doesG_g (b := (β1 || (!β2))) rfl (yld rfl rfl) (fun hg1 => ?_) (fun hc => ⟨fun hg1 => absurd hg1 hc, Ext.refl _⟩)
    obtain rfl := h29_ hg1
    refine (does_nilCheck (ev rfl)).mono ?_; rintro _ _ ⟨rfl, rfl⟩
    exact ⟨fun _ => rfl, Ext.refl _⟩
  refine RW_d _ rfl (fun v => by dsimp only [List.set]; try rfl) (fun u hu hF => ?_) (fun v43 => ?_)
  · have h30_ : (β1 || (!β2)) = false → v42 = (Pt c_b c_o) := hF.1
    have h28_ : v40 = (Bo (β1 || (!β2))) := hF.2.1
    clear hF
    obtain rfl := h28_
    refine doesG_g (b := (β1 || (!β2))) rfl (yld rfl rfl) (fun hg1 => ?_) (fun hc => ⟨fun hg1 => absurd hg1 hc, Ext.refl _⟩)
    obtain rfl := h30_ hg1
    refine (does_fieldAddr (ev rfl) fa60_0).mono ?_; rintro _ _ ⟨rfl, rfl⟩
    exact ⟨fun _ => rfl, Ext.refl _⟩
  refine RW_d _ rfl (fun v => by dsimp only [List.set]; try rfl) (fun u hu hF => ?_) (fun v44 => ?_)
  · have h31_ : (β1 || (!β2)) = false → v43 = (Pt c_b c_o) := hF.1
    have h28_ : v40 = (Bo (β1 || (!β2))) := hF.2.1
    clear hF
    obtain rfl := h28_
    refine doesG_g (b := (β1 || (!β2))) rfl (yld rfl rfl) (fun hg1 => ?_) (fun hc => ⟨fun hg1 => absurd hg1 hc, Ext.refl _⟩)
    obtain rfl := h31_ hg1
    refine (does_loadAgg (cs := [(Fl r1), (Fl r3), (Fl r5)]) (ev rfl) Try.isAgg40 Try.sizeOf40 (Cells.sub (hc_c.ext hu) 0 3) rfl).mono ?_; rintro _ _ ⟨rfl, rfl⟩
    exact ⟨fun _ => rfl, Ext.refl _⟩
  refine RW_d _ rfl (fun v => by dsimp only [List.set]; try rfl) (fun u hu hF => ?_) (fun v45 => ?_)
  · have h32_ : (β1 || (!β2)) = false → v44 = (.agg #[(Fl r1), (Fl r3), (Fl r5)]) := hF.1
    have h28_ : v40 = (Bo (β1 || (!β2))) := hF.2.1
    clear hF
    obtain rfl := h28_
    refine doesG_g (b := (β1 || (!β2))) rfl (yld rfl rfl) (fun hg1 => ?_) (fun hc => ⟨fun hg1 => absurd hg1 hc, Ext.refl _⟩)
    obtain rfl := h32_ hg1
    refine (does_call (args := #[(.agg #[(Fl r1), (Fl r3), (Fl r5)])]) cal73 (evs rfl) (c_spec_l01VFinite [(Fl r1), (Fl r3), (Fl r5)] A_c.frm _ ⟨r1, r3, r5, rfl, h2, h4, h6⟩)).mono ?_; rintro v u' ⟨hx, hv⟩
    exact ⟨fun _ => hv, hx⟩
  refine RW_d _ rfl (fun v => by dsimp only [List.set]; try rfl) (fun u hu hF => ?_) (fun v46 => ?_)
  · have h33_ : (β1 || (!β2)) = false → v45 = (Bo (finV A_c.frm)) := hF.1
    have h28_ : v40 = (Bo (β1 || (!β2))) := hF.2.1
    clear hF
    obtain rfl := h28_
    refine doesG_g (b := (β1 || (!β2))) rfl (yld rfl rfl) (fun hg1 => ?_) (fun hc => ⟨fun hg1 => absurd hg1 hc, Ext.refl _⟩)
    obtain rfl := h33_ hg1
    refine (does_not (ev rfl)).mono ?_; rintro _ _ ⟨rfl, rfl⟩
    exact ⟨fun _ => rfl, Ext.refl _⟩
  refine RW_d _ rfl (fun v => by dsimp only [List.set]; try rfl) (fun u hu hF => ?_) (fun v47 => ?_)
  · have h28_ : v40 = (Bo (β1 || (!β2))) := hF.1
    have h34_ : (β1 || (!β2)) = false → v46 = (Bo (!(finV A_c.frm))) := hF.2.1
    clear hF
    refine doesG_un rfl ?_
    skip
    obtain rfl := h28_
    refine (does_pick (b := (β1 || (!β2))) (u := (Bo true)) (v := v46) (ev rfl) (ev rfl) (ev rfl)).mono ?_; rintro _ _ ⟨rfl, rfl⟩; refine ⟨?_, Ext.refl _⟩; rw [hβ3]; skip
    cases hbb : (β1 || (!β2))
    all_goals first | (show _ = _; simp only [↓reduceIte, Bool.true_and, Bool.false_and, Bool.true_or, Bool.false_or, Bool.false_eq_true]; done) | (have e_ := h34_ hbb; subst e_; show _ = _; simp only [↓reduceIte, Bool.true_and, Bool.false_and, Bool.true_or, Bool.false_or, Bool.false_eq_true]; done) | rfl | (have e_ := h34_ hbb; subst e_; rfl) | (simp [hbb] at h34_ ⊢; first | done | rfl | (subst h34_; rfl) | simp_all) | (simp [hbb] at h34_ ⊢; done)
  refine RW_d _ rfl (fun v => by dsimp only [List.set]; try rfl) (fun u hu hF => ?_) (fun v48 => ?_)
  · have h35_ : v47 = (Bo β3) := hF.1
    clear hF
    refine doesG_un rfl ?_
    obtain rfl := h35_
    refine (does_move (u := (Bo β3)) (ev rfl)).mono ?_; rintro _ _ ⟨rfl, rfl⟩
    exact ⟨rfl, Ext.refl _⟩
  refine RW_d _ rfl (fun v => by dsimp only [List.set]; try rfl) (fun u hu hF => ?_) (fun v49 => ?_)
  · have h36_ : v48 = (Bo β3) := hF.1
    clear hF
    obtain rfl := h36_
    refine doesG_g (b := β3) rfl (yld rfl rfl) (fun hg1 => ?_) (fun hc => ⟨fun hg1 => absurd hg1 hc, Ext.refl _⟩)
    refine (does_move (u := (Pt c_b c_o)) (ev rfl)).mono ?_; rintro _ _ ⟨rfl, rfl⟩
    exact ⟨fun _ => rfl, Ext.refl _⟩
  refine RW_d _ rfl (fun v => by dsimp only [List.set]; try rfl) (fun u hu hF => ?_) (fun v50 => ?_)
  · have h37_ : β3 = false → v49 = (Pt c_b c_o) := hF.1
    have h36_ : v48 = (Bo β3) := hF.2.1
    clear hF
    obtain rfl := h36_
    refine doesG_g (b := β3) rfl (yld rfl rfl) (fun hg1 => ?_) (fun hc => ⟨fun hg1 => absurd hg1 hc, Ext.refl _⟩)
    obtain rfl := h37_ hg1
    refine (does_nilCheck (ev rfl)).mono ?_; rintro _ _ ⟨rfl, rfl⟩
    exact ⟨fun _ => rfl, Ext.refl _⟩
  refine RW_d _ rfl (fun v => by dsimp only [List.set]; try rfl) (fun u hu hF => ?_) (fun v51 => ?_)
  · have h38_ : β3 = false → v50 = (Pt c_b c_o) := hF.1
    have h36_ : v48 = (Bo β3) := hF.2.1
    clear hF
    obtain rfl := h36_
    refine doesG_g (b := β3) rfl (yld rfl rfl) (fun hg1 => ?_) (fun hc => ⟨fun hg1 => absurd hg1 hc, Ext.refl _⟩)
    obtain rfl := h38_ hg1
    refine (does_fieldAddr (ev rfl) fa60_1).mono ?_; rintro _ _ ⟨rfl, rfl⟩
    exact ⟨fun _ => rfl, Ext.refl _⟩
  refine RW_d _ rfl (fun v => by dsimp only [List.set]; try rfl) (fun u hu hF => ?_) (fun v52 => ?_)
  · have h39_ : β3 = false → v51 = (Pt c_b (c_o + 3)) := hF.1
    have h36_ : v48 = (Bo β3) := hF.2.1
    clear hF
    obtain rfl := h36_
    refine doesG_g (b := β3) rfl (yld rfl rfl) (fun hg1 => ?_) (fun hc => ⟨fun hg1 => absurd hg1 hc, Ext.refl _⟩)
    obtain rfl := h39_ hg1
    refine (does_loadAgg (cs := [(Fl r7), (Fl r9), (Fl r11)]) (ev rfl) Try.isAgg40 Try.sizeOf40 (Cells.sub (hc_c.ext hu) 3 3) rfl).mono ?_; rintro _ _ ⟨rfl, rfl⟩
    exact ⟨fun _ => rfl, Ext.refl _⟩
  refine RW_d _ rfl (fun v => by dsimp only [List.set]; try rfl) (fun u hu hF => ?_) (fun v53 => ?_)
  · have h40_ : β3 = false → v52 = (.agg #[(Fl r7), (Fl r9), (Fl r11)]) := hF.1
    have h36_ : v48 = (Bo β3) := hF.2.1
    clear hF
    obtain rfl := h36_
    refine doesG_g (b := β3) rfl (yld rfl rfl) (fun hg1 => ?_) (fun hc => ⟨fun hg1 => absurd hg1 hc, Ext.refl _⟩)
    obtain rfl := h40_ hg1
    refine (does_call (args := #[(.agg #[(Fl r7), (Fl r9), (Fl r11)])]) cal73 (evs rfl) (c_spec_l01VFinite [(Fl r7), (Fl r9), (Fl r11)] A_c.to _ ⟨r7, r9, r11, rfl, h8, h10, h12⟩)).mono ?_; rintro v u' ⟨hx, hv⟩
    exact ⟨fun _ => hv, hx⟩
  refine RW_d _ rfl (fun v => by dsimp only [List.set]; try rfl) (fun u hu hF => ?_) (fun v54 => ?_)
  · have h41_ : β3 = false → v53 = (Bo (finV A_c.to)) := hF.1
    have h36_ : v48 = (Bo β3) := hF.2.1
    clear hF
    obtain rfl := h36_
    refine doesG_g (b := β3) rfl (yld rfl rfl) (fun hg1 => ?_) (fun hc => ⟨fun hg1 => absurd hg1 hc, Ext.refl _⟩)
    obtain rfl := h41_ hg1
    refine (does_not (ev rfl)).mono ?_; rintro _ _ ⟨rfl, rfl⟩
    exact ⟨fun _ => rfl, Ext.refl _⟩
  refine RW_d _ rfl (fun v => by dsimp only [List.set]; try rfl) (fun u hu hF => ?_) (fun v55 => ?_)
  · have h36_ : v48 = (Bo β3) := hF.1
    have h42_ : β3 = false → v54 = (Bo (!(finV A_c.to))) := hF.2.1
    clear hF
    refine doesG_un rfl ?_
    skip
    obtain rfl := h36_
    refine (does_pick (b := β3) (u := (Bo true)) (v := v54) (ev rfl) (ev rfl) (ev rfl)).mono ?_; rintro _ _ ⟨rfl, rfl⟩; refine ⟨?_, Ext.refl _⟩; skip
    cases hbb : β3
    all_goals first | (show _ = _; simp only [↓reduceIte, Bool.true_and, Bool.false_and, Bool.true_or, Bool.false_or, Bool.false_eq_true]; done) | (have e_ := h42_ hbb; subst e_; show _ = _; simp only [↓reduceIte, Bool.true_and, Bool.false_and, Bool.true_or, Bool.false_or, Bool.false_eq_true]; done) | rfl | (have e_ := h42_ hbb; subst e_; rfl) | (simp [hbb] at h42_ ⊢; first | done | rfl | (subst h42_; rfl) | simp_all) | (simp [hbb] at h42_ ⊢; done)
  refine RW_fin ?_; intro w56 E57 hP58
  obtain ⟨⟨⟨⟨⟨⟨⟨⟨⟨⟨⟨⟨⟨⟨⟨⟨⟨⟨⟨⟨⟨⟨⟨⟨⟨⟨⟨⟨⟨⟨⟨⟨⟨⟨⟨⟨⟨⟨-, -⟩, -⟩, -⟩, -⟩, -⟩, -⟩, -⟩, -⟩, -⟩, -⟩, -⟩, -⟩, -⟩, -⟩, -⟩, -⟩, -⟩, -⟩, -⟩, -⟩, -⟩, -⟩, -⟩, -⟩, -⟩, -⟩, -⟩, -⟩, -⟩, -⟩, -⟩, -⟩, -⟩, -⟩, -⟩, -⟩, -⟩, q59⟩ := hP58
  have X60 := Ext.gr (Ext.refl w) E57
  have q59 : v55 = (Bo (β3 || (!(finV A_c.to)))) := q59
  obtain rfl := q59
  show wpList _ _ _ _ (fr [_, _, _, _, _, _, _, _, _, _, _, _, _, _, _, _, _, _, _, _, _, _, _, _, _, _, _, _, _, _, _, _, _, _, _, _, _, _, _, _, _, _, _, _, _, _, _, _, _, _, _, _, _, _, _, _]) _
  refine wpList_nil (hK17 _ _ ?_)
  refine wp_cond_split (t := β3 || (!(finV A_c.to))) (ev rfl) (fun c61 => ?_) (fun c61 => ?_)
  · have c61' := c61
    (try simp only [hβ1, hβ2, hβ3] at c61')
    (try simp only [icmp, Bool.and_eq_true, Bool.or_eq_true, Bool.and_eq_false_iff, Bool.or_eq_false_iff, Bool.not_eq_true', Bool.not_eq_false', decide_eq_true_eq, decide_eq_false_iff_not, beq_iff_eq, bne_iff_ne, beq_eq_false_iff_ne, bne_eq_false_iff_eq] at c61')
    simp only [h2, h4, h6, h8, h10, h12, h14, hβ1, hβ2, hβ3] at c61
    have hcf : isCam A_c = false := isCam_f c61
    refine wp_seq_k fun K62 hK62 => ?_
    refine wp_region_lit ?_
    refine q_is rfl rfl (does_assign (u := (Bo false)) (ev rfl)) (by dsimp only [List.set]; try rfl) ?_
    refine wpList_nil (hK62 _ _ ?_)
    refine wp_ret ?_
    dsimp only [Exit.then, Exit.inBlock]
    refine ret_val (v := (Bo false)) (res_T rfl (slot rfl)) X60 ?_
    try simp only [h2, h4, h6, h8, h10, h12, h14, hβ1, hβ2, hβ3] at c61
    have x63 : (isCam A_c) = false := by first | exact hcf | (rw [hct]; simp only [h2, h4, h6, h8, h10, h12, h14, hβ1, hβ2, hβ3, c61]; done)
    exact (by first | with_reducible rfl | rw [x63] | rfl)
  have c61' := c61
  (try simp only [hβ1, hβ2, hβ3] at c61')
  (try simp only [icmp, Bool.and_eq_true, Bool.or_eq_true, Bool.and_eq_false_iff, Bool.or_eq_false_iff, Bool.not_eq_true', Bool.not_eq_false', decide_eq_true_eq, decide_eq_false_iff_not, beq_iff_eq, bne_iff_ne, beq_eq_false_iff_ne, bne_eq_false_iff_eq] at c61')
  simp only [h2, h4, h6, h8, h10, h12, h14, hβ1, hβ2, hβ3] at c61
  have hct := isCam_t c61
  refine wp_skip (hK16 _ _ ?_)
  refine wp_seq_k fun K64 hK64 => ?_
  refine wp_region_lit ?_
  refine q_is rfl rfl (does_move (u := (Pt c_b c_o)) (ev rfl)) (by dsimp only [List.set]; try rfl) ?_
  refine seqd rfl rfl (does_call (args := #[(Pt c_b c_o)]) cal94 (evs rfl) (c_spec_l09Axes c_b c_o [(Fl r1), (Fl r3), (Fl r5), (Fl r7), (Fl r9), (Fl r11), (Fl r13), (Iv A_c.width), (Iv A_c.height)] A_c _ (hc_c.ext X60) ⟨r1, r3, r5, r7, r9, r11, r13, rfl, h2, h4, h6, h8, h10, h12, h14⟩)) ?_; rintro _ w66 ⟨E65, ⟨_, _, _, rfl, ⟨r67, r69, r71, rfl, h68, h70, h72⟩, ⟨r73, r75, r77, rfl, h74, h76, h78⟩, ⟨r79, r81, r83, rfl, h80, h82, h84⟩⟩⟩
  have X85 := Ext.gr X60 E65
  show wpList _ _ _ _ (fr [_, _, _, _, _, _, _, _, _, _, _, _, _, _, _, _, _, _, _, _, _, _, _, _, _, _, _, _, _, _, _, _, _, _, _, _, _, _, _, _, _, _, _, _, _, _, _, _, _, _, _, _, _, _, _, _]) _
  refine q_is rfl rfl (does_move (u := (.tuple #[(.agg #[(Fl r67), (Fl r69), (Fl r71)]), (.agg #[(Fl r73), (Fl r75), (Fl r77)]), (.agg #[(Fl r79), (Fl r81), (Fl r83)])])) (ev rfl)) (by dsimp only [List.set]; try rfl) ?_
  refine q_is rfl rfl (does_extract (vs := #[(.agg #[(Fl r67), (Fl r69), (Fl r71)]), (.agg #[(Fl r73), (Fl r75), (Fl r77)]), (.agg #[(Fl r79), (Fl r81), (Fl r83)])]) (u := (.agg #[(Fl r67), (Fl r69), (Fl r71)])) (ev rfl) rfl) (by dsimp only [List.set]; try rfl) ?_
  refine q_is rfl rfl (does_extract (vs := #[(.agg #[(Fl r67), (Fl r69), (Fl r71)]), (.agg #[(Fl r73), (Fl r75), (Fl r77)]), (.agg #[(Fl r79), (Fl r81), (Fl r83)])]) (u := (.agg #[(Fl r73), (Fl r75), (Fl r77)])) (ev rfl) rfl) (by dsimp only [List.set]; try rfl) ?_
  refine q_is rfl rfl (does_extract (vs := #[(.agg #[(Fl r67), (Fl r69), (Fl r71)]), (.agg #[(Fl r73), (Fl r75), (Fl r77)]), (.agg #[(Fl r79), (Fl r81), (Fl r83)])]) (u := (.agg #[(Fl r79), (Fl r81), (Fl r83)])) (ev rfl) rfl) (by dsimp only [List.set]; try rfl) ?_
  refine seqd rfl rfl (does_alloc z40) ?_; rintro _ w90 ⟨b86, rfl, hb87, hB88, E89⟩
  have n91 : c_b < b86 := Nat.lt_of_lt_of_le (cell_lt (Cells.at (hc_c.ext X85) 0 rfl)) hb87
  have g92 : w.heap.size ≤ b86 := Nat.le_trans (Below.size X85) hb87
  change Blk _ _ [(Fl 0), (Fl 0), (Fl 0)] at hB88
  have X93 := Ext.gr X85 E89
  show wpList _ _ _ _ (fr [_, _, _, _, _, _, _, _, _, _, _, _, _, _, _, _, _, _, _, _, _, _, _, _, _, _, _, _, _, _, _, _, _, _, _, _, _, _, _, _, _, _, _, _, _, _, _, _, _, _, _, _, _, _, _, _]) _
  refine seqd rfl rfl (does_alloc z40) ?_; rintro _ w98 ⟨b94, rfl, hb95, hB96, E97⟩
  have n99 : c_b < b94 := Nat.lt_of_lt_of_le (cell_lt (Cells.at (hc_c.ext X93) 0 rfl)) hb95
  have n100 : b86 < b94 := Nat.lt_of_lt_of_le (Blk.lt hB88) hb95
  have g101 : w.heap.size ≤ b94 := Nat.le_trans (Below.size X93) hb95
  change Blk _ _ [(Fl 0), (Fl 0), (Fl 0)] at hB96
  have X102 := Ext.gr X93 E97
  show wpList _ _ _ _ (fr [_, _, _, _, _, _, _, _, _, _, _, _, _, _, _, _, _, _, _, _, _, _, _, _, _, _, _, _, _, _, _, _, _, _, _, _, _, _, _, _, _, _, _, _, _, _, _, _, _, _, _, _, _, _, _, _]) _
  refine seqd rfl rfl (does_alloc z40) ?_; rintro _ w107 ⟨b103, rfl, hb104, hB105, E106⟩
  have n108 : c_b < b103 := Nat.lt_of_lt_of_le (cell_lt (Cells.at (hc_c.ext X102) 0 rfl)) hb104
  have n109 : b86 < b103 := Nat.lt_of_lt_of_le (Blk.lt (hB88.ext E97)) hb104
  have n110 : b94 < b103 := Nat.lt_of_lt_of_le (Blk.lt hB96) hb104
  have g111 : w.heap.size ≤ b103 := Nat.le_trans (Below.size X102) hb104
  change Blk _ _ [(Fl 0), (Fl 0), (Fl 0)] at hB105
  have X112 := Ext.gr X102 E106
  show wpList _ _ _ _ (fr [_, _, _, _, _, _, _, _, _, _, _, _, _, _, _, _, _, _, _, _, _, _, _, _, _, _, _, _, _, _, _, _, _, _, _, _, _, _, _, _, _, _, _, _, _, _, _, _, _, _, _, _, _, _, _, _]) _
  refine seqn rfl rfl (does_store (n := 3) (cs := [(Fl 0), (Fl 0), (Fl 0)]) (u := (.agg #[(Fl r67), (Fl r69), (Fl r71)])) (ev rfl) (ev rfl) Try.sizeOf40 rfl ((hB88.ext E97).ext E106) (Nat.le_of_ble_eq_true rfl) rfl) ?_; rintro _ w115 ⟨rfl, W113, hB114⟩
  change Blk _ _ [(Fl r67), (Fl r69), (Fl r71)] at hB114
  have X116 := Below.wr X112 W113 g92
  refine seqn rfl rfl (does_store (n := 3) (cs := [(Fl 0), (Fl 0), (Fl 0)]) (u := (.agg #[(Fl r73), (Fl r75), (Fl r77)])) (ev rfl) (ev rfl) Try.sizeOf40 rfl ((hB96.ext E106).wr W113 (Nat.ne_of_gt n100)) (Nat.le_of_ble_eq_true rfl) rfl) ?_; rintro _ w119 ⟨rfl, W117, hB118⟩
  change Blk _ _ [(Fl r73), (Fl r75), (Fl r77)] at hB118
  have X120 := Below.wr X116 W117 g101
  refine seqn rfl rfl (does_store (n := 3) (cs := [(Fl 0), (Fl 0), (Fl 0)]) (u := (.agg #[(Fl r79), (Fl r81), (Fl r83)])) (ev rfl) (ev rfl) Try.sizeOf40 rfl ((hB105.wr W113 (Nat.ne_of_gt n109)).wr W117 (Nat.ne_of_gt n110)) (Nat.le_of_ble_eq_true rfl) rfl) ?_; rintro _ w123 ⟨rfl, W121, hB122⟩
  change Blk _ _ [(Fl r79), (Fl r81), (Fl r83)] at hB122
  have X124 := Below.wr X120 W121 g111
  refine wpList_nil (hK64 _ _ ?_)
  refine wp_seq_k fun K125 hK125 => ?_
  obtain ⟨β4, hβ4⟩ : ∃ b : Bool, b = ((someV (fwdC A_c)) && (someV (rgtC A_c))) := ⟨_, rfl⟩
  refine region_text (
    [Fact.pure [] (fun v => v = (.agg #[(Fl r79), (Fl r81), (Fl r83)])),
    Fact.pure [50] (fun v => v = (Bo (someV (fwdC A_c)))),
    Fact.pure [51] (fun v => v = (Bo (someV (fwdC A_c)))),
    Fact.pure [52] (fun v => (someV (fwdC A_c)) = true → v = (.agg #[(Fl r67), (Fl r69), (Fl r71)])),
    Fact.pure [53, 52] (fun v => (someV (fwdC A_c)) = true → v = (Bo (someV (rgtC A_c)))),
    Fact.pure [52, 54] (fun v => v = (Bo β4))]) (by simp [Fact.pure, Fact.mem]) ?_
  refine RW_d _ rfl (fun v => by dsimp only [List.set]; try rfl) (fun u hu hF => ?_) (fun v126 => ?_)
  · clear hF
    refine doesG_un rfl ?_
    refine (does_loadAgg (cs := [(Fl r79), (Fl r81), (Fl r83)]) (ev rfl) Try.isAgg40 Try.sizeOf40 (Blk.cells (hB122.ext hu)) rfl).mono ?_; rintro _ _ ⟨rfl, rfl⟩
    exact ⟨rfl, Ext.refl _⟩
  refine RW_d _ rfl (fun v => by dsimp only [List.set]; try rfl) (fun u hu hF => ?_) (fun v127 => ?_)
  · have h50_ : v126 = (.agg #[(Fl r79), (Fl r81), (Fl r83)]) := hF.1
    clear hF
    refine doesG_un rfl ?_
    obtain rfl := h50_
    refine (does_call (args := #[(.agg #[(Fl r79), (Fl r81), (Fl r83)])]) cal95 (evs rfl) (c_spec_l09Some [(Fl r79), (Fl r81), (Fl r83)] (fwdC A_c) _ ⟨r79, r81, r83, rfl, h80, h82, h84⟩)).mono ?_; rintro v u' ⟨hx, hv⟩
    exact ⟨hv, hx⟩
  refine RW_d _ rfl (fun v => by dsimp only [List.set]; try rfl) (fun u hu hF => ?_) (fun v128 => ?_)
  · have h51_ : v127 = (Bo (someV (fwdC A_c))) := hF.1
    clear hF
    refine doesG_un rfl ?_
    obtain rfl := h51_
    refine (does_move (u := (Bo (someV (fwdC A_c)))) (ev rfl)).mono ?_; rintro _ _ ⟨rfl, rfl⟩
    exact ⟨rfl, Ext.refl _⟩
  refine RW_d _ rfl (fun v => by dsimp only [List.set]; try rfl) (fun u hu hF => ?_) (fun v129 => ?_)
  · have h52_ : v128 = (Bo (someV (fwdC A_c))) := hF.1
    clear hF
    obtain rfl := h52_
    refine doesG_g (b := (someV (fwdC A_c))) rfl (yld rfl rfl) (fun hg1 => ?_) (fun hc => ⟨fun hg1 => absurd hg1 hc, Ext.refl _⟩)
    refine (does_loadAgg (cs := [(Fl r67), (Fl r69), (Fl r71)]) (ev rfl) Try.isAgg40 Try.sizeOf40 (Blk.cells (((hB114.wr W117 (Nat.ne_of_lt n100)).wr W121 (Nat.ne_of_lt n109)).ext hu)) rfl).mono ?_; rintro _ _ ⟨rfl, rfl⟩
    exact ⟨fun _ => rfl, Ext.refl _⟩
  refine RW_d _ rfl (fun v => by dsimp only [List.set]; try rfl) (fun u hu hF => ?_) (fun v130 => ?_)
  · have h53_ : (someV (fwdC A_c)) = true → v129 = (.agg #[(Fl r67), (Fl r69), (Fl r71)]) := hF.1
    have h52_ : v128 = (Bo (someV (fwdC A_c))) := hF.2.1
    clear hF
    obtain rfl := h52_
    refine doesG_g (b := (someV (fwdC A_c))) rfl (yld rfl rfl) (fun hg1 => ?_) (fun hc => ⟨fun hg1 => absurd hg1 hc, Ext.refl _⟩)
    obtain rfl := h53_ hg1
    refine (does_call (args := #[(.agg #[(Fl r67), (Fl r69), (Fl r71)])]) cal95 (evs rfl) (c_spec_l09Some [(Fl r67), (Fl r69), (Fl r71)] (rgtC A_c) _ ⟨r67, r69, r71, rfl, h68, h70, h72⟩)).mono ?_; rintro v u' ⟨hx, hv⟩
    exact ⟨fun _ => hv, hx⟩
  refine RW_d _ rfl (fun v => by dsimp only [List.set]; try rfl) (fun u hu hF => ?_) (fun v131 => ?_)
  · have h52_ : v128 = (Bo (someV (fwdC A_c))) := hF.1
    have h54_ : (someV (fwdC A_c)) = true → v130 = (Bo (someV (rgtC A_c))) := hF.2.1
    clear hF
    refine doesG_un rfl ?_
    skip
    obtain rfl := h52_
    refine (does_pick (b := (someV (fwdC A_c))) (u := v130) (v := (Bo false)) (ev rfl) (ev rfl) (ev rfl)).mono ?_; rintro _ _ ⟨rfl, rfl⟩; refine ⟨?_, Ext.refl _⟩; rw [hβ4]; skip
    cases hbb : (someV (fwdC A_c))
    all_goals first | (show _ = _; simp only [↓reduceIte, Bool.true_and, Bool.false_and, Bool.true_or, Bool.false_or, Bool.false_eq_true]; done) | (have e_ := h54_ hbb; subst e_; show _ = _; simp only [↓reduceIte, Bool.true_and, Bool.false_and, Bool.true_or, Bool.false_or, Bool.false_eq_true]; done) | rfl | (have e_ := h54_ hbb; subst e_; rfl) | (simp [hbb] at h54_ ⊢; first | done | rfl | (subst h54_; rfl) | simp_all) | (simp [hbb] at h54_ ⊢; done)
  refine RW_fin ?_; intro w132 E133 hP134
  obtain ⟨⟨⟨⟨⟨⟨-, -⟩, -⟩, -⟩, -⟩, -⟩, q135⟩ := hP134
  have X136 := Ext.gr X124 E133
  have q135 : v131 = (Bo β4) := q135
  obtain rfl := q135
  show wpList _ _ _ _ (fr [_, _, _, _, _, _, _, _, _, _, _, _, _, _, _, _, _, _, _, _, _, _, _, _, _, _, _, _, _, _, _, _, _, _, _, _, _, _, _, _, _, _, _, _, _, _, _, _, _, _, _, _, _, _, _, _]) _
  refine q_is rfl rfl (does_assign (u := (Bo β4)) (ev rfl)) (by dsimp only [List.set]; try rfl) ?_
  refine wpList_nil (hK125 _ _ ?_)
  refine wp_ret ?_
  refine ret_val (v := (Bo β4)) (res_T rfl (slot rfl)) X136 ?_
  try simp only [h2, h4, h6, h8, h10, h12, h14, hβ1, hβ2, hβ3, h68, h70, h72, h74, h76, h78, h80, h82, h84, hβ4] at c61
  have x137 : (isCam A_c) = β4 := by first | exact hcf | (rw [hct]; simp only [h2, h4, h6, h8, h10, h12, h14, hβ1, hβ2, hβ3, h68, h70, h72, h74, h76, h78, h80, h82, h84, hβ4, c61]; done)
  exact (by first | with_reducible rfl | rw [x137] | rfl)

/- spec.l03March -/
theorem c_spec_l03March (m__b : Nat) (m__o : Nat) (m_ : List Value) (A_m_ : MarchT) (w : World) (hc_m_ : Cells w m__b m__o m_) (hv_m_ : RMarchT w A_m_ m_) : Gives Try.prog 74 #[(Pt m__b m__o)] w (fun v w' => v = (Bo (marchOk A_m_))) := by
  obtain ⟨r1, r3, rfl, h2, h4⟩ := hv_m_
  refine enter [(Pt m__b m__o), Ud, Ud, Ud, Ud, Ud, Ud, Ud, Ud, Ud, Ud, Ud, Ud, Ud, Ud, Ud, Ud, Ud, Ud, Ud, Ud, Ud, Ud, Ud, Ud, Ud, Ud, Ud, Ud] Try.func74 rfl Try.ntmps74 rfl ?_
  refine wp_seq_k fun K5 hK5 => ?_
  refine wp_region_lit ?_
  refine q_is rfl rfl (does_assign (u := (Bo false)) (ev rfl)) (by dsimp only [List.set]; try rfl) ?_
  refine wpList_nil (hK5 _ _ ?_)
  refine wp_seq_k fun K6 hK6 => ?_
  obtain ⟨β1, hβ1⟩ : ∃ b : Bool, b = (finF (cf .f32 r1) && posF (cf .f32 r1)) := ⟨_, rfl⟩
  obtain ⟨β2, hβ2⟩ : ∃ b : Bool, b = (β1 && (finF (cf .f32 r3))) := ⟨_, rfl⟩
  obtain ⟨β3, hβ3⟩ : ∃ b : Bool, b = (fcmp .geq (ford .f32 (cf .f32 r3) (cf .f32 0))) := ⟨_, rfl⟩
  obtain ⟨β4, hβ4⟩ : ∃ b : Bool, b = ((β2 && β3) && (inI A_m_.steps 1 64)) := ⟨_, rfl⟩
  refine region_text (
    [Fact.pure [] (fun v => v = (Pt m__b m__o)),
    Fact.pure [3] (fun v => v = (Pt m__b m__o)),
    Fact.pure [4] (fun v => v = (Pt m__b m__o)),
    Fact.pure [5] (fun v => v = (Fl r1)),
    Fact.pure [6] (fun v => v = (Bo β1)),
    Fact.pure [7] (fun v => v = (Bo β1)),
    Fact.pure [8] (fun v => β1 = true → v = (Pt m__b m__o)),
    Fact.pure [9, 8] (fun v => β1 = true → v = (Pt m__b m__o)),
    Fact.pure [10, 8] (fun v => β1 = true → v = (Pt m__b (m__o + 1))),
    Fact.pure [11, 8] (fun v => β1 = true → v = (Fl r3)),
    Fact.pure [12, 8] (fun v => β1 = true → v = (Bo (finF (cf .f32 r3)))),
    Fact.pure [8, 13] (fun v => v = (Bo β2)),
    Fact.pure [14] (fun v => v = (Bo β2)),
    Fact.pure [15] (fun v => β2 = true → v = (Pt m__b m__o)),
    Fact.pure [16, 15] (fun v => β2 = true → v = (Pt m__b m__o)),
    Fact.pure [17, 15] (fun v => β2 = true → v = (Pt m__b (m__o + 1))),
    Fact.pure [18, 15] (fun v => β2 = true → v = (Fl r3)),
    Fact.pure [19, 15] (fun v => β2 = true → v = (Bo β3)),
    Fact.pure [15, 20] (fun v => v = (Bo (β2 && β3))),
    Fact.pure [21] (fun v => v = (Bo (β2 && β3))),
    Fact.pure [22] (fun v => (β2 && β3) = true → v = (Pt m__b m__o)),
    Fact.pure [23, 22] (fun v => (β2 && β3) = true → v = (Pt m__b m__o)),
    Fact.pure [24, 22] (fun v => (β2 && β3) = true → v = (Pt m__b (m__o + 2))),
    Fact.pure [25, 22] (fun v => (β2 && β3) = true → v = (Iv A_m_.steps)),
    Fact.pure [26, 22] (fun v => (β2 && β3) = true → v = (Bo (inI A_m_.steps 1 64))),
    Fact.pure [22, 27] (fun v => v = (Bo β4))]) (by simp [Fact.pure, Fact.mem]) ?_
  refine RW_d _ rfl (fun v => by dsimp only [List.set]; try rfl) (fun u hu hF => ?_) (fun v7 => ?_)
  · clear hF
    refine doesG_un rfl ?_
    refine (does_move (u := (Pt m__b m__o)) (ev rfl)).mono ?_; rintro _ _ ⟨rfl, rfl⟩
    exact ⟨rfl, Ext.refl _⟩
  refine RW_d _ rfl (fun v => by dsimp only [List.set]; try rfl) (fun u hu hF => ?_) (fun v8 => ?_)
  · have h3_ : v7 = (Pt m__b m__o) := hF.1
    clear hF
    refine doesG_un rfl ?_
    obtain rfl := h3_
    refine (does_nilCheck (ev rfl)).mono ?_; rintro _ _ ⟨rfl, rfl⟩
    exact ⟨rfl, Ext.refl _⟩
  refine RW_d _ rfl (fun v => by dsimp only [List.set]; try rfl) (fun u hu hF => ?_) (fun v9 => ?_)
  · have h4_ : v8 = (Pt m__b m__o) := hF.1
    clear hF
    refine doesG_un rfl ?_
    obtain rfl := h4_
    refine (does_fieldAddr (ev rfl) fa61_0).mono ?_; rintro _ _ ⟨rfl, rfl⟩
    exact ⟨rfl, Ext.refl _⟩
  refine RW_d _ rfl (fun v => by dsimp only [List.set]; try rfl) (fun u hu hF => ?_) (fun v10 => ?_)
  · have h5_ : v9 = (Pt m__b m__o) := hF.1
    clear hF
    refine doesG_un rfl ?_
    obtain rfl := h5_
    refine (does_load (u := (Fl r1)) (ev rfl) Try.isAgg38 (Cells.at (hc_m_.ext hu) 0 rfl)).mono ?_; rintro _ _ ⟨rfl, rfl⟩
    exact ⟨rfl, Ext.refl _⟩
  refine RW_d _ rfl (fun v => by dsimp only [List.set]; try rfl) (fun u hu hF => ?_) (fun v11 => ?_)
  · have h6_ : v10 = (Fl r1) := hF.1
    clear hF
    refine doesG_un rfl ?_
    obtain rfl := h6_
    refine (does_call (args := #[(Fl r1)]) cal93 (evs rfl) (c_spec_l03Positive r1 _)).mono ?_; rintro v u' ⟨hx, hv⟩
    exact ⟨hv.trans (by simp only [hβ1]), hx⟩
  refine RW_d _ rfl (fun v => by dsimp only [List.set]; try rfl) (fun u hu hF => ?_) (fun v12 => ?_)
  · have h7_ : v11 = (Bo β1) := hF.1
    clear hF
    refine doesG_un rfl ?_
    obtain rfl := h7_
    refine (does_move (u := (Bo β1)) (ev rfl)).mono ?_; rintro _ _ ⟨rfl, rfl⟩
    exact ⟨rfl, Ext.refl _⟩
  refine RW_d _ rfl (fun v => by dsimp only [List.set]; try rfl) (fun u hu hF => ?_) (fun v13 => ?_)
  · have h8_ : v12 = (Bo β1) := hF.1
    clear hF
    obtain rfl := h8_
    refine doesG_g (b := β1) rfl (yld rfl rfl) (fun hg1 => ?_) (fun hc => ⟨fun hg1 => absurd hg1 hc, Ext.refl _⟩)
    refine (does_move (u := (Pt m__b m__o)) (ev rfl)).mono ?_; rintro _ _ ⟨rfl, rfl⟩
    exact ⟨fun _ => rfl, Ext.refl _⟩
  refine RW_d _ rfl (fun v => by dsimp only [List.set]; try rfl) (fun u hu hF => ?_) (fun v14 => ?_)
  · have h9_ : β1 = true → v13 = (Pt m__b m__o) := hF.1
    have h8_ : v12 = (Bo β1) := hF.2.1
    clear hF
    obtain rfl := h8_
    refine doesG_g (b := β1) rfl (yld rfl rfl) (fun hg1 => ?_) (fun hc => ⟨fun hg1 => absurd hg1 hc, Ext.refl _⟩)
    obtain rfl := h9_ hg1
    refine (does_nilCheck (ev rfl)).mono ?_; rintro _ _ ⟨rfl, rfl⟩
    exact ⟨fun _ => rfl, Ext.refl _⟩
  refine RW_d _ rfl (fun v => by dsimp only [List.set]; try rfl) (fun u hu hF => ?_) (fun v15 => ?_)
  · have h10_ : β1 = true → v14 = (Pt m__b m__o) := hF.1
    have h8_ : v12 = (Bo β1) := hF.2.1
    clear hF
    obtain rfl := h8_
    refine doesG_g (b := β1) rfl (yld rfl rfl) (fun hg1 => ?_) (fun hc => ⟨fun hg1 => absurd hg1 hc, Ext.refl _⟩)
    obtain rfl := h10_ hg1
    refine (does_fieldAddr (ev rfl) fa61_1).mono ?_; rintro _ _ ⟨rfl, rfl⟩
    exact ⟨fun _ => rfl, Ext.refl _⟩
  refine RW_d _ rfl (fun v => by dsimp only [List.set]; try rfl) (fun u hu hF => ?_) (fun v16 => ?_)
  · have h11_ : β1 = true → v15 = (Pt m__b (m__o + 1)) := hF.1
    have h8_ : v12 = (Bo β1) := hF.2.1
    clear hF
    obtain rfl := h8_
    refine doesG_g (b := β1) rfl (yld rfl rfl) (fun hg1 => ?_) (fun hc => ⟨fun hg1 => absurd hg1 hc, Ext.refl _⟩)
    obtain rfl := h11_ hg1
    refine (does_load (u := (Fl r3)) (ev rfl) Try.isAgg38 (Cells.at (hc_m_.ext hu) 1 rfl)).mono ?_; rintro _ _ ⟨rfl, rfl⟩
    exact ⟨fun _ => rfl, Ext.refl _⟩
  refine RW_d _ rfl (fun v => by dsimp only [List.set]; try rfl) (fun u hu hF => ?_) (fun v17 => ?_)
  · have h12_ : β1 = true → v16 = (Fl r3) := hF.1
    have h8_ : v12 = (Bo β1) := hF.2.1
    clear hF
    obtain rfl := h8_
    refine doesG_g (b := β1) rfl (yld rfl rfl) (fun hg1 => ?_) (fun hc => ⟨fun hg1 => absurd hg1 hc, Ext.refl _⟩)
    obtain rfl := h12_ hg1
    refine (does_call (args := #[(Fl r3)]) cal96 (evs rfl) (c_spec_l01Finite r3 _)).mono ?_; rintro v u' ⟨hx, hv⟩
    exact ⟨fun _ => hv, hx⟩
  refine RW_d _ rfl (fun v => by dsimp only [List.set]; try rfl) (fun u hu hF => ?_) (fun v18 => ?_)
  · have h8_ : v12 = (Bo β1) := hF.1
    have h13_ : β1 = true → v17 = (Bo (finF (cf .f32 r3))) := hF.2.1
    clear hF
    refine doesG_un rfl ?_
    skip
    obtain rfl := h8_
    refine (does_pick (b := β1) (u := v17) (v := (Bo false)) (ev rfl) (ev rfl) (ev rfl)).mono ?_; rintro _ _ ⟨rfl, rfl⟩; refine ⟨?_, Ext.refl _⟩; rw [hβ2]; skip
    cases hbb : β1
    all_goals first | (show _ = _; simp only [↓reduceIte, Bool.true_and, Bool.false_and, Bool.true_or, Bool.false_or, Bool.false_eq_true]; done) | (have e_ := h13_ hbb; subst e_; show _ = _; simp only [↓reduceIte, Bool.true_and, Bool.false_and, Bool.true_or, Bool.false_or, Bool.false_eq_true]; done) | rfl | (have e_ := h13_ hbb; subst e_; rfl) | (simp [hbb] at h13_ ⊢; first | done | rfl | (subst h13_; rfl) | simp_all) | (simp [hbb] at h13_ ⊢; done)
  refine RW_d _ rfl (fun v => by dsimp only [List.set]; try rfl) (fun u hu hF => ?_) (fun v19 => ?_)
  · have h14_ : v18 = (Bo β2) := hF.1
    clear hF
    refine doesG_un rfl ?_
    obtain rfl := h14_
    refine (does_move (u := (Bo β2)) (ev rfl)).mono ?_; rintro _ _ ⟨rfl, rfl⟩
    exact ⟨rfl, Ext.refl _⟩
  refine RW_d _ rfl (fun v => by dsimp only [List.set]; try rfl) (fun u hu hF => ?_) (fun v20 => ?_)
  · have h15_ : v19 = (Bo β2) := hF.1
    clear hF
    obtain rfl := h15_
    refine doesG_g (b := β2) rfl (yld rfl rfl) (fun hg1 => ?_) (fun hc => ⟨fun hg1 => absurd hg1 hc, Ext.refl _⟩)
    refine (does_move (u := (Pt m__b m__o)) (ev rfl)).mono ?_; rintro _ _ ⟨rfl, rfl⟩
    exact ⟨fun _ => rfl, Ext.refl _⟩
  refine RW_d _ rfl (fun v => by dsimp only [List.set]; try rfl) (fun u hu hF => ?_) (fun v21 => ?_)
  · have h16_ : β2 = true → v20 = (Pt m__b m__o) := hF.1
    have h15_ : v19 = (Bo β2) := hF.2.1
    clear hF
    obtain rfl := h15_
    refine doesG_g (b := β2) rfl (yld rfl rfl) (fun hg1 => ?_) (fun hc => ⟨fun hg1 => absurd hg1 hc, Ext.refl _⟩)
    obtain rfl := h16_ hg1
    refine (does_nilCheck (ev rfl)).mono ?_; rintro _ _ ⟨rfl, rfl⟩
    exact ⟨fun _ => rfl, Ext.refl _⟩
  refine RW_d _ rfl (fun v => by dsimp only [List.set]; try rfl) (fun u hu hF => ?_) (fun v22 => ?_)
  · have h17_ : β2 = true → v21 = (Pt m__b m__o) := hF.1
    have h15_ : v19 = (Bo β2) := hF.2.1
    clear hF
    obtain rfl := h15_
    refine doesG_g (b := β2) rfl (yld rfl rfl) (fun hg1 => ?_) (fun hc => ⟨fun hg1 => absurd hg1 hc, Ext.refl _⟩)
    obtain rfl := h17_ hg1
    refine (does_fieldAddr (ev rfl) fa61_1).mono ?_; rintro _ _ ⟨rfl, rfl⟩
    exact ⟨fun _ => rfl, Ext.refl _⟩
  refine RW_d _ rfl (fun v => by dsimp only [List.set]; try rfl) (fun u hu hF => ?_) (fun v23 => ?_)
  · have h18_ : β2 = true → v22 = (Pt m__b (m__o + 1)) := hF.1
    have h15_ : v19 = (Bo β2) := hF.2.1
    clear hF
    obtain rfl := h15_
    refine doesG_g (b := β2) rfl (yld rfl rfl) (fun hg1 => ?_) (fun hc => ⟨fun hg1 => absurd hg1 hc, Ext.refl _⟩)
    obtain rfl := h18_ hg1
    refine (does_load (u := (Fl r3)) (ev rfl) Try.isAgg38 (Cells.at (hc_m_.ext hu) 1 rfl)).mono ?_; rintro _ _ ⟨rfl, rfl⟩
    exact ⟨fun _ => rfl, Ext.refl _⟩
  refine RW_d _ rfl (fun v => by dsimp only [List.set]; try rfl) (fun u hu hF => ?_) (fun v24 => ?_)
  · have h19_ : β2 = true → v23 = (Fl r3) := hF.1
    have h15_ : v19 = (Bo β2) := hF.2.1
    clear hF
    obtain rfl := h15_
    refine doesG_g (b := β2) rfl (yld rfl rfl) (fun hg1 => ?_) (fun hc => ⟨fun hg1 => absurd hg1 hc, Ext.refl _⟩)
    obtain rfl := h19_ hg1
    refine (does_fcmp (.inr (.inr (.inr (.inr (.inr rfl))))) (ev rfl) (ev rfl)).mono ?_; rintro _ _ ⟨rfl, rfl⟩
    exact ⟨fun _ => (by first | rfl | (show _ = _; simp only [hβ3]; done) | (show _ = _; simp only [hβ3]; rfl)), Ext.refl _⟩
  refine RW_d _ rfl (fun v => by dsimp only [List.set]; try rfl) (fun u hu hF => ?_) (fun v25 => ?_)
  · have h15_ : v19 = (Bo β2) := hF.1
    have h20_ : β2 = true → v24 = (Bo β3) := hF.2.1
    clear hF
    refine doesG_un rfl ?_
    skip
    obtain rfl := h15_
    refine (does_pick (b := β2) (u := v24) (v := (Bo false)) (ev rfl) (ev rfl) (ev rfl)).mono ?_; rintro _ _ ⟨rfl, rfl⟩; refine ⟨?_, Ext.refl _⟩; skip
    cases hbb : β2
    all_goals first | (show _ = _; simp only [↓reduceIte, Bool.true_and, Bool.false_and, Bool.true_or, Bool.false_or, Bool.false_eq_true]; done) | (have e_ := h20_ hbb; subst e_; show _ = _; simp only [↓reduceIte, Bool.true_and, Bool.false_and, Bool.true_or, Bool.false_or, Bool.false_eq_true]; done) | rfl | (have e_ := h20_ hbb; subst e_; rfl) | (simp [hbb] at h20_ ⊢; first | done | rfl | (subst h20_; rfl) | simp_all) | (simp [hbb] at h20_ ⊢; done)
  refine RW_d _ rfl (fun v => by dsimp only [List.set]; try rfl) (fun u hu hF => ?_) (fun v26 => ?_)
  · have h21_ : v25 = (Bo (β2 && β3)) := hF.1
    clear hF
    refine doesG_un rfl ?_
    obtain rfl := h21_
    refine (does_move (u := (Bo (β2 && β3))) (ev rfl)).mono ?_; rintro _ _ ⟨rfl, rfl⟩
    exact ⟨rfl, Ext.refl _⟩
  refine RW_d _ rfl (fun v => by dsimp only [List.set]; try rfl) (fun u hu hF => ?_) (fun v27 => ?_)
  · have h22_ : v26 = (Bo (β2 && β3)) := hF.1
    clear hF
    obtain rfl := h22_
    refine doesG_g (b := (β2 && β3)) rfl (yld rfl rfl) (fun hg1 => ?_) (fun hc => ⟨fun hg1 => absurd hg1 hc, Ext.refl _⟩)
    refine (does_move (u := (Pt m__b m__o)) (ev rfl)).mono ?_; rintro _ _ ⟨rfl, rfl⟩
    exact ⟨fun _ => rfl, Ext.refl _⟩
  refine RW_d _ rfl (fun v => by dsimp only [List.set]; try rfl) (fun u hu hF => ?_) (fun v28 => ?_)
  · have h23_ : (β2 && β3) = true → v27 = (Pt m__b m__o) := hF.1
    have h22_ : v26 = (Bo (β2 && β3)) := hF.2.1
    clear hF
    obtain rfl := h22_
    refine doesG_g (b := (β2 && β3)) rfl (yld rfl rfl) (fun hg1 => ?_) (fun hc => ⟨fun hg1 => absurd hg1 hc, Ext.refl _⟩)
    obtain rfl := h23_ hg1
    refine (does_nilCheck (ev rfl)).mono ?_; rintro _ _ ⟨rfl, rfl⟩
    exact ⟨fun _ => rfl, Ext.refl _⟩
  refine RW_d _ rfl (fun v => by dsimp only [List.set]; try rfl) (fun u hu hF => ?_) (fun v29 => ?_)
  · have h24_ : (β2 && β3) = true → v28 = (Pt m__b m__o) := hF.1
    have h22_ : v26 = (Bo (β2 && β3)) := hF.2.1
    clear hF
    obtain rfl := h22_
    refine doesG_g (b := (β2 && β3)) rfl (yld rfl rfl) (fun hg1 => ?_) (fun hc => ⟨fun hg1 => absurd hg1 hc, Ext.refl _⟩)
    obtain rfl := h24_ hg1
    refine (does_fieldAddr (ev rfl) fa61_2).mono ?_; rintro _ _ ⟨rfl, rfl⟩
    exact ⟨fun _ => rfl, Ext.refl _⟩
  refine RW_d _ rfl (fun v => by dsimp only [List.set]; try rfl) (fun u hu hF => ?_) (fun v30 => ?_)
  · have h25_ : (β2 && β3) = true → v29 = (Pt m__b (m__o + 2)) := hF.1
    have h22_ : v26 = (Bo (β2 && β3)) := hF.2.1
    clear hF
    obtain rfl := h22_
    refine doesG_g (b := (β2 && β3)) rfl (yld rfl rfl) (fun hg1 => ?_) (fun hc => ⟨fun hg1 => absurd hg1 hc, Ext.refl _⟩)
    obtain rfl := h25_ hg1
    refine (does_load (u := (Iv A_m_.steps)) (ev rfl) Try.isAgg2 (Cells.at (hc_m_.ext hu) 2 rfl)).mono ?_; rintro _ _ ⟨rfl, rfl⟩
    exact ⟨fun _ => rfl, Ext.refl _⟩
  refine RW_d _ rfl (fun v => by dsimp only [List.set]; try rfl) (fun u hu hF => ?_) (fun v31 => ?_)
  · have h26_ : (β2 && β3) = true → v30 = (Iv A_m_.steps) := hF.1
    have h22_ : v26 = (Bo (β2 && β3)) := hF.2.1
    clear hF
    obtain rfl := h22_
    refine doesG_g (b := (β2 && β3)) rfl (yld rfl rfl) (fun hg1 => ?_) (fun hc => ⟨fun hg1 => absurd hg1 hc, Ext.refl _⟩)
    obtain rfl := h26_ hg1
    refine (does_call (args := #[(Iv A_m_.steps), (Iv 1), (Iv 64)]) cal66 (evs rfl) (c_spec_l00In A_m_.steps 1 64 _)).mono ?_; rintro v u' ⟨hx, hv⟩
    exact ⟨fun _ => hv, hx⟩
  refine RW_d _ rfl (fun v => by dsimp only [List.set]; try rfl) (fun u hu hF => ?_) (fun v32 => ?_)
  · have h22_ : v26 = (Bo (β2 && β3)) := hF.1
    have h27_ : (β2 && β3) = true → v31 = (Bo (inI A_m_.steps 1 64)) := hF.2.1
    clear hF
    refine doesG_un rfl ?_
    skip
    obtain rfl := h22_
    refine (does_pick (b := (β2 && β3)) (u := v31) (v := (Bo false)) (ev rfl) (ev rfl) (ev rfl)).mono ?_; rintro _ _ ⟨rfl, rfl⟩; refine ⟨?_, Ext.refl _⟩; rw [hβ4]; skip
    cases hbb : (β2 && β3)
    all_goals first | (show _ = _; simp only [↓reduceIte, Bool.true_and, Bool.false_and, Bool.true_or, Bool.false_or, Bool.false_eq_true]; done) | (have e_ := h27_ hbb; subst e_; show _ = _; simp only [↓reduceIte, Bool.true_and, Bool.false_and, Bool.true_or, Bool.false_or, Bool.false_eq_true]; done) | rfl | (have e_ := h27_ hbb; subst e_; rfl) | (simp [hbb] at h27_ ⊢; first | done | rfl | (subst h27_; rfl) | simp_all) | (simp [hbb] at h27_ ⊢; done)
  refine RW_fin ?_; intro w33 E34 hP35
  obtain ⟨⟨⟨⟨⟨⟨⟨⟨⟨⟨⟨⟨⟨⟨⟨⟨⟨⟨⟨⟨⟨⟨⟨⟨⟨⟨-, -⟩, -⟩, -⟩, -⟩, -⟩, -⟩, -⟩, -⟩, -⟩, -⟩, -⟩, -⟩, -⟩, -⟩, -⟩, -⟩, -⟩, -⟩, -⟩, -⟩, -⟩, -⟩, -⟩, -⟩, -⟩, q36⟩ := hP35
  have X37 := Ext.gr (Ext.refl w) E34
  have q36 : v32 = (Bo β4) := q36
  obtain rfl := q36
  show wpList _ _ _ _ (fr [_, _, _, _, _, _, _, _, _, _, _, _, _, _, _, _, _, _, _, _, _, _, _, _, _, _, _, _, _]) _
  refine q_is rfl rfl (does_assign (u := (Bo β4)) (ev rfl)) (by dsimp only [List.set]; try rfl) ?_
  refine wpList_nil (hK6 _ _ ?_)
  refine wp_ret ?_
  refine ret_val (v := (Bo β4)) (res_T rfl (slot rfl)) X37 ?_
  have x38 : (marchOk A_m_) = β4 := by first | with_reducible rfl | (simp only [marchOk, h2, h4, hβ1, hβ2, hβ3, hβ4]; done) | (simp [marchOk, h2, h4, hβ1, hβ2, hβ3, hβ4]; done) | rfl
  exact (by first | with_reducible rfl | rw [x38] | rfl)

/- spec.l09Scene -/
theorem c_spec_l09Scene (v__b : Nat) (v__o : Nat) (v_ : List Value) (A_v_ : ViewT) (w : World) (hc_v_ : Cells w v__b v__o v_) (hv_v_ : RViewT w A_v_ v_) : Gives Try.prog 39 #[(Pt v__b v__o)] w (fun v w' => v = (Bo (isView A_v_))) := by
  obtain ⟨r3, r5, r7, r9, r11, r13, r15, r17, r19, r21, r23, r25, y1, rfl, h4, h6, h8, h10, h12, h14, h16, h18, h20, h22, h24, h26, h2⟩ := hv_v_
  have hs29 := h2; have hs29l := Sl.len h2; obtain ⟨p27, q28, rfl⟩ := Sl.shape h2
  refine enter [(Pt v__b v__o), Ud, Ud, Ud, Ud, Ud, Ud, Ud, Ud, Ud, Ud, Ud, Ud, Ud, Ud, Ud, Ud, Ud, Ud, Ud, Ud, Ud, Ud, Ud, Ud, Ud] Try.func39 rfl Try.ntmps39 rfl ?_
  refine wp_seq_k fun K30 hK30 => ?_
  refine wp_region_lit ?_
  refine q_is rfl rfl (does_assign (u := (Bo false)) (ev rfl)) (by dsimp only [List.set]; try rfl) ?_
  refine wpList_nil (hK30 _ _ ?_)
  refine wp_seq_k fun K31 hK31 => ?_
  obtain ⟨β1, hβ1⟩ : ∃ b : Bool, b = ((isShape A_v_.shape) && (isCam A_v_.cam)) := ⟨_, rfl⟩
  obtain ⟨β2, hβ2⟩ : ∃ b : Bool, b = ((β1 && (finV A_v_.light)) && (marchOk A_v_.march)) := ⟨_, rfl⟩
  refine region_text (
    [Fact.pure [] (fun v => v = (Pt v__b v__o)),
    Fact.pure [3] (fun v => v = (Pt v__b v__o)),
    Fact.pure [4] (fun v => v = (Pt v__b v__o)),
    Fact.pure [5] (fun v => v = (Bo (isShape A_v_.shape))),
    Fact.pure [6] (fun v => v = (Bo (isShape A_v_.shape))),
    Fact.pure [7] (fun v => (isShape A_v_.shape) = true → v = (Pt v__b v__o)),
    Fact.pure [8, 7] (fun v => (isShape A_v_.shape) = true → v = (Pt v__b v__o)),
    Fact.pure [9, 7] (fun v => (isShape A_v_.shape) = true → v = (Pt v__b (v__o + 1))),
    Fact.pure [10, 7] (fun v => (isShape A_v_.shape) = true → v = (Bo (isCam A_v_.cam))),
    Fact.pure [7, 11] (fun v => v = (Bo β1)),
    Fact.pure [12] (fun v => v = (Bo β1)),
    Fact.pure [13] (fun v => β1 = true → v = (Pt v__b v__o)),
    Fact.pure [14, 13] (fun v => β1 = true → v = (Pt v__b v__o)),
    Fact.pure [15, 13] (fun v => β1 = true → v = (Pt v__b (v__o + 10))),
    Fact.pure [16, 13] (fun v => β1 = true → v = (.agg #[(Fl r17), (Fl r19), (Fl r21)])),
    Fact.pure [17, 13] (fun v => β1 = true → v = (Bo (finV A_v_.light))),
    Fact.pure [13, 18] (fun v => v = (Bo (β1 && (finV A_v_.light)))),
    Fact.pure [19] (fun v => v = (Bo (β1 && (finV A_v_.light)))),
    Fact.pure [20] (fun v => (β1 && (finV A_v_.light)) = true → v = (Pt v__b v__o)),
    Fact.pure [21, 20] (fun v => (β1 && (finV A_v_.light)) = true → v = (Pt v__b v__o)),
    Fact.pure [22, 20] (fun v => (β1 && (finV A_v_.light)) = true → v = (Pt v__b (v__o + 13))),
    Fact.pure [23, 20] (fun v => (β1 && (finV A_v_.light)) = true → v = (Bo (marchOk A_v_.march))),
    Fact.pure [20, 24] (fun v => v = (Bo β2))]) (by simp [Fact.pure, Fact.mem]) ?_
  refine RW_d _ rfl (fun v => by dsimp only [List.set]; try rfl) (fun u hu hF => ?_) (fun v32 => ?_)
  · clear hF
    refine doesG_un rfl ?_
    refine (does_move (u := (Pt v__b v__o)) (ev rfl)).mono ?_; rintro _ _ ⟨rfl, rfl⟩
    exact ⟨rfl, Ext.refl _⟩
  refine RW_d _ rfl (fun v => by dsimp only [List.set]; try rfl) (fun u hu hF => ?_) (fun v33 => ?_)
  · have h3_ : v32 = (Pt v__b v__o) := hF.1
    clear hF
    refine doesG_un rfl ?_
    obtain rfl := h3_
    refine (does_nilCheck (ev rfl)).mono ?_; rintro _ _ ⟨rfl, rfl⟩
    exact ⟨rfl, Ext.refl _⟩
  refine RW_d _ rfl (fun v => by dsimp only [List.set]; try rfl) (fun u hu hF => ?_) (fun v34 => ?_)
  · have h4_ : v33 = (Pt v__b v__o) := hF.1
    clear hF
    refine doesG_un rfl ?_
    obtain rfl := h4_
    refine (does_fieldAddr (ev rfl) fa63_0).mono ?_; rintro _ _ ⟨rfl, rfl⟩
    exact ⟨rfl, Ext.refl _⟩
  refine RW_d _ rfl (fun v => by dsimp only [List.set]; try rfl) (fun u hu hF => ?_) (fun v35 => ?_)
  · have h5_ : v34 = (Pt v__b v__o) := hF.1
    clear hF
    refine doesG_un rfl ?_
    obtain rfl := h5_
    refine (does_call (args := #[(Pt v__b v__o)]) cal23 (evs rfl) (c_spec_l02Is v__b v__o [(.slice p27 A_v_.shape.nodes.length q28)] A_v_.shape _ (Cells.sub (hc_v_.ext hu) 0 1) ⟨(.slice p27 A_v_.shape.nodes.length q28), rfl, (Sl.ext hs29 RNodeT.mono hu)⟩)).mono ?_; rintro v u' ⟨hx, hv⟩
    exact ⟨hv, hx⟩
  refine RW_d _ rfl (fun v => by dsimp only [List.set]; try rfl) (fun u hu hF => ?_) (fun v36 => ?_)
  · have h6_ : v35 = (Bo (isShape A_v_.shape)) := hF.1
    clear hF
    refine doesG_un rfl ?_
    obtain rfl := h6_
    refine (does_move (u := (Bo (isShape A_v_.shape))) (ev rfl)).mono ?_; rintro _ _ ⟨rfl, rfl⟩
    exact ⟨rfl, Ext.refl _⟩
  refine RW_d _ rfl (fun v => by dsimp only [List.set]; try rfl) (fun u hu hF => ?_) (fun v37 => ?_)
  · have h7_ : v36 = (Bo (isShape A_v_.shape)) := hF.1
    clear hF
    obtain rfl := h7_
    refine doesG_g (b := (isShape A_v_.shape)) rfl (yld rfl rfl) (fun hg1 => ?_) (fun hc => ⟨fun hg1 => absurd hg1 hc, Ext.refl _⟩)
    refine (does_move (u := (Pt v__b v__o)) (ev rfl)).mono ?_; rintro _ _ ⟨rfl, rfl⟩
    exact ⟨fun _ => rfl, Ext.refl _⟩
  refine RW_d _ rfl (fun v => by dsimp only [List.set]; try rfl) (fun u hu hF => ?_) (fun v38 => ?_)
  · have h8_ : (isShape A_v_.shape) = true → v37 = (Pt v__b v__o) := hF.1
    have h7_ : v36 = (Bo (isShape A_v_.shape)) := hF.2.1
    clear hF
    obtain rfl := h7_
    refine doesG_g (b := (isShape A_v_.shape)) rfl (yld rfl rfl) (fun hg1 => ?_) (fun hc => ⟨fun hg1 => absurd hg1 hc, Ext.refl _⟩)
    obtain rfl := h8_ hg1
    refine (does_nilCheck (ev rfl)).mono ?_; rintro _ _ ⟨rfl, rfl⟩
    exact ⟨fun _ => rfl, Ext.refl _⟩
  refine RW_d _ rfl (fun v => by dsimp only [List.set]; try rfl) (fun u hu hF => ?_) (fun v39 => ?_)
  · have h9_ : (isShape A_v_.shape) = true → v38 = (Pt v__b v__o) := hF.1
    have h7_ : v36 = (Bo (isShape A_v_.shape)) := hF.2.1
    clear hF
    obtain rfl := h7_
    refine doesG_g (b := (isShape A_v_.shape)) rfl (yld rfl rfl) (fun hg1 => ?_) (fun hc => ⟨fun hg1 => absurd hg1 hc, Ext.refl _⟩)
    obtain rfl := h9_ hg1
    refine (does_fieldAddr (ev rfl) fa63_1).mono ?_; rintro _ _ ⟨rfl, rfl⟩
    exact ⟨fun _ => rfl, Ext.refl _⟩
  refine RW_d _ rfl (fun v => by dsimp only [List.set]; try rfl) (fun u hu hF => ?_) (fun v40 => ?_)
  · have h10_ : (isShape A_v_.shape) = true → v39 = (Pt v__b (v__o + 1)) := hF.1
    have h7_ : v36 = (Bo (isShape A_v_.shape)) := hF.2.1
    clear hF
    obtain rfl := h7_
    refine doesG_g (b := (isShape A_v_.shape)) rfl (yld rfl rfl) (fun hg1 => ?_) (fun hc => ⟨fun hg1 => absurd hg1 hc, Ext.refl _⟩)
    obtain rfl := h10_ hg1
    refine (does_call (args := #[(Pt v__b (v__o + 1))]) cal72 (evs rfl) (c_spec_l09Is v__b (v__o + 1) [(Fl r3), (Fl r5), (Fl r7), (Fl r9), (Fl r11), (Fl r13), (Fl r15), (Iv A_v_.cam.width), (Iv A_v_.cam.height)] A_v_.cam _ (Cells.sub (hc_v_.ext hu) 1 9) ⟨r3, r5, r7, r9, r11, r13, r15, rfl, h4, h6, h8, h10, h12, h14, h16⟩)).mono ?_; rintro v u' ⟨hx, hv⟩
    exact ⟨fun _ => hv, hx⟩
  refine RW_d _ rfl (fun v => by dsimp only [List.set]; try rfl) (fun u hu hF => ?_) (fun v41 => ?_)
  · have h7_ : v36 = (Bo (isShape A_v_.shape)) := hF.1
    have h11_ : (isShape A_v_.shape) = true → v40 = (Bo (isCam A_v_.cam)) := hF.2.1
    clear hF
    refine doesG_un rfl ?_
    skip
    obtain rfl := h7_
    refine (does_pick (b := (isShape A_v_.shape)) (u := v40) (v := (Bo false)) (ev rfl) (ev rfl) (ev rfl)).mono ?_; rintro _ _ ⟨rfl, rfl⟩; refine ⟨?_, Ext.refl _⟩; rw [hβ1]; skip
    cases hbb : (isShape A_v_.shape)
    all_goals first | (show _ = _; simp only [↓reduceIte, Bool.true_and, Bool.false_and, Bool.true_or, Bool.false_or, Bool.false_eq_true]; done) | (have e_ := h11_ hbb; subst e_; show _ = _; simp only [↓reduceIte, Bool.true_and, Bool.false_and, Bool.true_or, Bool.false_or, Bool.false_eq_true]; done) | rfl | (have e_ := h11_ hbb; subst e_; rfl) | (simp [hbb] at h11_ ⊢; first | done | rfl | (subst h11_; rfl) | simp_all) | (simp [hbb] at h11_ ⊢; done)
  refine RW_d _ rfl (fun v => by dsimp only [List.set]; try rfl) (fun u hu hF => ?_) (fun v42 => ?_)
  · have h12_ : v41 = (Bo β1) := hF.1
    clear hF
    refine doesG_un rfl ?_
    obtain rfl := h12_
    refine (does_move (u := (Bo β1)) (ev rfl)).mono ?_; rintro _ _ ⟨rfl, rfl⟩
    exact ⟨rfl, Ext.refl _⟩
  refine RW_d _ rfl (fun v => by dsimp only [List.set]; try rfl) (fun u hu hF => ?_) (fun v43 => ?_)
  · have h13_ : v42 = (Bo β1) := hF.1
    clear hF
    obtain rfl := h13_
    refine doesG_g (b := β1) rfl (yld rfl rfl) (fun hg1 => ?_) (fun hc => ⟨fun hg1 => absurd hg1 hc, Ext.refl _⟩)
    refine (does_move (u := (Pt v__b v__o)) (ev rfl)).mono ?_; rintro _ _ ⟨rfl, rfl⟩
    exact ⟨fun _ => rfl, Ext.refl _⟩
  refine RW_d _ rfl (fun v => by dsimp only [List.set]; try rfl) (fun u hu hF => ?_) (fun v44 => ?_)
  · have h14_ : β1 = true → v43 = (Pt v__b v__o) := hF.1
    have h13_ : v42 = (Bo β1) := hF.2.1
    clear hF
    obtain rfl := h13_
    refine doesG_g (b := β1) rfl (yld rfl rfl) (fun hg1 => ?_) (fun hc => ⟨fun hg1 => absurd hg1 hc, Ext.refl _⟩)
    obtain rfl := h14_ hg1
    refine (does_nilCheck (ev rfl)).mono ?_; rintro _ _ ⟨rfl, rfl⟩
    exact ⟨fun _ => rfl, Ext.refl _⟩
  refine RW_d _ rfl (fun v => by dsimp only [List.set]; try rfl) (fun u hu hF => ?_) (fun v45 => ?_)
  · have h15_ : β1 = true → v44 = (Pt v__b v__o) := hF.1
    have h13_ : v42 = (Bo β1) := hF.2.1
    clear hF
    obtain rfl := h13_
    refine doesG_g (b := β1) rfl (yld rfl rfl) (fun hg1 => ?_) (fun hc => ⟨fun hg1 => absurd hg1 hc, Ext.refl _⟩)
    obtain rfl := h15_ hg1
    refine (does_fieldAddr (ev rfl) fa63_2).mono ?_; rintro _ _ ⟨rfl, rfl⟩
    exact ⟨fun _ => rfl, Ext.refl _⟩
  refine RW_d _ rfl (fun v => by dsimp only [List.set]; try rfl) (fun u hu hF => ?_) (fun v46 => ?_)
  · have h16_ : β1 = true → v45 = (Pt v__b (v__o + 10)) := hF.1
    have h13_ : v42 = (Bo β1) := hF.2.1
    clear hF
    obtain rfl := h13_
    refine doesG_g (b := β1) rfl (yld rfl rfl) (fun hg1 => ?_) (fun hc => ⟨fun hg1 => absurd hg1 hc, Ext.refl _⟩)
    obtain rfl := h16_ hg1
    refine (does_loadAgg (cs := [(Fl r17), (Fl r19), (Fl r21)]) (ev rfl) Try.isAgg40 Try.sizeOf40 (Cells.sub (hc_v_.ext hu) 10 3) rfl).mono ?_; rintro _ _ ⟨rfl, rfl⟩
    exact ⟨fun _ => rfl, Ext.refl _⟩
  refine RW_d _ rfl (fun v => by dsimp only [List.set]; try rfl) (fun u hu hF => ?_) (fun v47 => ?_)
  · have h17_ : β1 = true → v46 = (.agg #[(Fl r17), (Fl r19), (Fl r21)]) := hF.1
    have h13_ : v42 = (Bo β1) := hF.2.1
    clear hF
    obtain rfl := h13_
    refine doesG_g (b := β1) rfl (yld rfl rfl) (fun hg1 => ?_) (fun hc => ⟨fun hg1 => absurd hg1 hc, Ext.refl _⟩)
    obtain rfl := h17_ hg1
    refine (does_call (args := #[(.agg #[(Fl r17), (Fl r19), (Fl r21)])]) cal73 (evs rfl) (c_spec_l01VFinite [(Fl r17), (Fl r19), (Fl r21)] A_v_.light _ ⟨r17, r19, r21, rfl, h18, h20, h22⟩)).mono ?_; rintro v u' ⟨hx, hv⟩
    exact ⟨fun _ => hv, hx⟩
  refine RW_d _ rfl (fun v => by dsimp only [List.set]; try rfl) (fun u hu hF => ?_) (fun v48 => ?_)
  · have h13_ : v42 = (Bo β1) := hF.1
    have h18_ : β1 = true → v47 = (Bo (finV A_v_.light)) := hF.2.1
    clear hF
    refine doesG_un rfl ?_
    skip
    obtain rfl := h13_
    refine (does_pick (b := β1) (u := v47) (v := (Bo false)) (ev rfl) (ev rfl) (ev rfl)).mono ?_; rintro _ _ ⟨rfl, rfl⟩; refine ⟨?_, Ext.refl _⟩; skip
    cases hbb : β1
    all_goals first | (show _ = _; simp only [↓reduceIte, Bool.true_and, Bool.false_and, Bool.true_or, Bool.false_or, Bool.false_eq_true]; done) | (have e_ := h18_ hbb; subst e_; show _ = _; simp only [↓reduceIte, Bool.true_and, Bool.false_and, Bool.true_or, Bool.false_or, Bool.false_eq_true]; done) | rfl | (have e_ := h18_ hbb; subst e_; rfl) | (simp [hbb] at h18_ ⊢; first | done | rfl | (subst h18_; rfl) | simp_all) | (simp [hbb] at h18_ ⊢; done)
  refine RW_d _ rfl (fun v => by dsimp only [List.set]; try rfl) (fun u hu hF => ?_) (fun v49 => ?_)
  · have h19_ : v48 = (Bo (β1 && (finV A_v_.light))) := hF.1
    clear hF
    refine doesG_un rfl ?_
    obtain rfl := h19_
    refine (does_move (u := (Bo (β1 && (finV A_v_.light)))) (ev rfl)).mono ?_; rintro _ _ ⟨rfl, rfl⟩
    exact ⟨rfl, Ext.refl _⟩
  refine RW_d _ rfl (fun v => by dsimp only [List.set]; try rfl) (fun u hu hF => ?_) (fun v50 => ?_)
  · have h20_ : v49 = (Bo (β1 && (finV A_v_.light))) := hF.1
    clear hF
    obtain rfl := h20_
    refine doesG_g (b := (β1 && (finV A_v_.light))) rfl (yld rfl rfl) (fun hg1 => ?_) (fun hc => ⟨fun hg1 => absurd hg1 hc, Ext.refl _⟩)
    refine (does_move (u := (Pt v__b v__o)) (ev rfl)).mono ?_; rintro _ _ ⟨rfl, rfl⟩
    exact ⟨fun _ => rfl, Ext.refl _⟩
  refine RW_d _ rfl (fun v => by dsimp only [List.set]; try rfl) (fun u hu hF => ?_) (fun v51 => ?_)
  · have h21_ : (β1 && (finV A_v_.light)) = true → v50 = (Pt v__b v__o) := hF.1
    have h20_ : v49 = (Bo (β1 && (finV A_v_.light))) := hF.2.1
    clear hF
    obtain rfl := h20_
    refine doesG_g (b := (β1 && (finV A_v_.light))) rfl (yld rfl rfl) (fun hg1 => ?_) (fun hc => ⟨fun hg1 => absurd hg1 hc, Ext.refl _⟩)
    obtain rfl := h21_ hg1
    refine (does_nilCheck (ev rfl)).mono ?_; rintro _ _ ⟨rfl, rfl⟩
    exact ⟨fun _ => rfl, Ext.refl _⟩
  refine RW_d _ rfl (fun v => by dsimp only [List.set]; try rfl) (fun u hu hF => ?_) (fun v52 => ?_)
  · have h22_ : (β1 && (finV A_v_.light)) = true → v51 = (Pt v__b v__o) := hF.1
    have h20_ : v49 = (Bo (β1 && (finV A_v_.light))) := hF.2.1
    clear hF
    obtain rfl := h20_
    refine doesG_g (b := (β1 && (finV A_v_.light))) rfl (yld rfl rfl) (fun hg1 => ?_) (fun hc => ⟨fun hg1 => absurd hg1 hc, Ext.refl _⟩)
    obtain rfl := h22_ hg1
    refine (does_fieldAddr (ev rfl) fa63_3).mono ?_; rintro _ _ ⟨rfl, rfl⟩
    exact ⟨fun _ => rfl, Ext.refl _⟩
  refine RW_d _ rfl (fun v => by dsimp only [List.set]; try rfl) (fun u hu hF => ?_) (fun v53 => ?_)
  · have h23_ : (β1 && (finV A_v_.light)) = true → v52 = (Pt v__b (v__o + 13)) := hF.1
    have h20_ : v49 = (Bo (β1 && (finV A_v_.light))) := hF.2.1
    clear hF
    obtain rfl := h20_
    refine doesG_g (b := (β1 && (finV A_v_.light))) rfl (yld rfl rfl) (fun hg1 => ?_) (fun hc => ⟨fun hg1 => absurd hg1 hc, Ext.refl _⟩)
    obtain rfl := h23_ hg1
    refine (does_call (args := #[(Pt v__b (v__o + 13))]) cal74 (evs rfl) (c_spec_l03March v__b (v__o + 13) [(Fl r23), (Fl r25), (Iv A_v_.march.steps)] A_v_.march _ (Cells.sub (hc_v_.ext hu) 13 3) ⟨r23, r25, rfl, h24, h26⟩)).mono ?_; rintro v u' ⟨hx, hv⟩
    exact ⟨fun _ => hv, hx⟩
  refine RW_d _ rfl (fun v => by dsimp only [List.set]; try rfl) (fun u hu hF => ?_) (fun v54 => ?_)
  · have h20_ : v49 = (Bo (β1 && (finV A_v_.light))) := hF.1
    have h24_ : (β1 && (finV A_v_.light)) = true → v53 = (Bo (marchOk A_v_.march)) := hF.2.1
    clear hF
    refine doesG_un rfl ?_
    skip
    obtain rfl := h20_
    refine (does_pick (b := (β1 && (finV A_v_.light))) (u := v53) (v := (Bo false)) (ev rfl) (ev rfl) (ev rfl)).mono ?_; rintro _ _ ⟨rfl, rfl⟩; refine ⟨?_, Ext.refl _⟩; rw [hβ2]; skip
    cases hbb : (β1 && (finV A_v_.light))
    all_goals first | (show _ = _; simp only [↓reduceIte, Bool.true_and, Bool.false_and, Bool.true_or, Bool.false_or, Bool.false_eq_true]; done) | (have e_ := h24_ hbb; subst e_; show _ = _; simp only [↓reduceIte, Bool.true_and, Bool.false_and, Bool.true_or, Bool.false_or, Bool.false_eq_true]; done) | rfl | (have e_ := h24_ hbb; subst e_; rfl) | (simp [hbb] at h24_ ⊢; first | done | rfl | (subst h24_; rfl) | simp_all) | (simp [hbb] at h24_ ⊢; done)
  refine RW_fin ?_; intro w55 E56 hP57
  obtain ⟨⟨⟨⟨⟨⟨⟨⟨⟨⟨⟨⟨⟨⟨⟨⟨⟨⟨⟨⟨⟨⟨⟨-, -⟩, -⟩, -⟩, -⟩, -⟩, -⟩, -⟩, -⟩, -⟩, -⟩, -⟩, -⟩, -⟩, -⟩, -⟩, -⟩, -⟩, -⟩, -⟩, -⟩, -⟩, -⟩, q58⟩ := hP57
  have X59 := Ext.gr (Ext.refl w) E56
  have q58 : v54 = (Bo β2) := q58
  obtain rfl := q58
  show wpList _ _ _ _ (fr [_, _, _, _, _, _, _, _, _, _, _, _, _, _, _, _, _, _, _, _, _, _, _, _, _, _]) _
  refine q_is rfl rfl (does_assign (u := (Bo β2)) (ev rfl)) (by dsimp only [List.set]; try rfl) ?_
  refine wpList_nil (hK31 _ _ ?_)
  refine wp_ret ?_
  refine ret_val (v := (Bo β2)) (res_T rfl (slot rfl)) X59 ?_
  have x60 : (isView A_v_) = β2 := by first | with_reducible rfl | (simp only [isView, h4, h6, h8, h10, h12, h14, h16, h18, h20, h22, h24, h26, hβ1, hβ2]; done) | (simp [isView, h4, h6, h8, h10, h12, h14, h16, h18, h20, h22, h24, h26, hβ1, hβ2]; done) | rfl
  exact (by first | with_reducible rfl | rw [x60] | rfl)

/- spec.ValidView -/
theorem c_spec_ValidView (v_ : List Value) (A_v_ : ViewT) (w : World) (hv_v_ : RViewT w A_v_ v_) : Gives Try.prog 18 #[(.agg v_.toArray)] w (fun v w' => v = (Bo (isView A_v_))) := by
  obtain ⟨r3, r5, r7, r9, r11, r13, r15, r17, r19, r21, r23, r25, y1, rfl, h4, h6, h8, h10, h12, h14, h16, h18, h20, h22, h24, h26, h2⟩ := hv_v_
  have hs29 := h2; have hs29l := Sl.len h2; obtain ⟨p27, q28, rfl⟩ := Sl.shape h2
  refine enter [(.agg #[(.slice p27 A_v_.shape.nodes.length q28), (Fl r3), (Fl r5), (Fl r7), (Fl r9), (Fl r11), (Fl r13), (Fl r15), (Iv A_v_.cam.width), (Iv A_v_.cam.height), (Fl r17), (Fl r19), (Fl r21), (Fl r23), (Fl r25), (Iv A_v_.march.steps)]), Ud, Ud, Ud] Try.func18 rfl Try.ntmps18 rfl ?_
  refine wp_seq_k fun K30 hK30 => ?_
  refine wp_region_lit ?_
  refine seqd rfl rfl (does_box (u := (.agg #[(.slice p27 A_v_.shape.nodes.length q28), (Fl r3), (Fl r5), (Fl r7), (Fl r9), (Fl r11), (Fl r13), (Fl r15), (Iv A_v_.cam.width), (Iv A_v_.cam.height), (Fl r17), (Fl r19), (Fl r21), (Fl r23), (Fl r25), (Iv A_v_.march.steps)])) (ev rfl)) ?_; rintro _ w35 ⟨b31, rfl, hb32, hB33, E34⟩
  have g36 : w.heap.size ≤ b31 := Nat.le_trans (Below.size (Ext.refl w)) hb32
  change Blk _ _ [(.slice p27 A_v_.shape.nodes.length q28), (Fl r3), (Fl r5), (Fl r7), (Fl r9), (Fl r11), (Fl r13), (Fl r15), (Iv A_v_.cam.width), (Iv A_v_.cam.height), (Fl r17), (Fl r19), (Fl r21), (Fl r23), (Fl r25), (Iv A_v_.march.steps)] at hB33
  have X37 := Ext.gr (Ext.refl w) E34
  show wpList _ _ _ _ (fr [(.agg #[(.slice p27 A_v_.shape.nodes.length q28), (Fl r3), (Fl r5), (Fl r7), (Fl r9), (Fl r11), (Fl r13), (Fl r15), (Iv A_v_.cam.width), (Iv A_v_.cam.height), (Fl r17), (Fl r19), (Fl r21), (Fl r23), (Fl r25), (Iv A_v_.march.steps)]), (Pt b31 0), Ud, Ud]) _
  refine q_is (l' := [(.agg #[(.slice p27 A_v_.shape.nodes.length q28), (Fl r3), (Fl r5), (Fl r7), (Fl r9), (Fl r11), (Fl r13), (Fl r15), (Iv A_v_.cam.width), (Iv A_v_.cam.height), (Fl r17), (Fl r19), (Fl r21), (Fl r23), (Fl r25), (Iv A_v_.march.steps)]), (Pt b31 0), (Bo false), Ud]) rfl rfl (does_assign (u := (Bo false)) (ev rfl)) rfl ?_
  refine wpList_nil (hK30 _ _ ?_)
  refine wp_seq_k fun K38 hK38 => ?_
  refine wp_region_lit ?_
  refine seqd rfl rfl (does_call (args := #[(Pt b31 0)]) cal39 (evs rfl) (c_spec_l09Scene b31 0 [(.slice p27 A_v_.shape.nodes.length q28), (Fl r3), (Fl r5), (Fl r7), (Fl r9), (Fl r11), (Fl r13), (Fl r15), (Iv A_v_.cam.width), (Iv A_v_.cam.height), (Fl r17), (Fl r19), (Fl r21), (Fl r23), (Fl r25), (Iv A_v_.march.steps)] A_v_ _ (Blk.cells hB33) ⟨r3, r5, r7, r9, r11, r13, r15, r17, r19, r21, r23, r25, (.slice p27 A_v_.shape.nodes.length q28), rfl, h4, h6, h8, h10, h12, h14, h16, h18, h20, h22, h24, h26, (Sl.ext hs29 RNodeT.mono X37)⟩)) ?_; rintro _ w40 ⟨E39, rfl⟩
  have X41 := Ext.gr X37 E39
  show wpList _ _ _ _ (fr [(.agg #[(.slice p27 A_v_.shape.nodes.length q28), (Fl r3), (Fl r5), (Fl r7), (Fl r9), (Fl r11), (Fl r13), (Fl r15), (Iv A_v_.cam.width), (Iv A_v_.cam.height), (Fl r17), (Fl r19), (Fl r21), (Fl r23), (Fl r25), (Iv A_v_.march.steps)]), (Pt b31 0), (Bo false), (Bo (isView A_v_))]) _
  refine q_is (l' := [(.agg #[(.slice p27 A_v_.shape.nodes.length q28), (Fl r3), (Fl r5), (Fl r7), (Fl r9), (Fl r11), (Fl r13), (Fl r15), (Iv A_v_.cam.width), (Iv A_v_.cam.height), (Fl r17), (Fl r19), (Fl r21), (Fl r23), (Fl r25), (Iv A_v_.march.steps)]), (Pt b31 0), (Bo (isView A_v_)), (Bo (isView A_v_))]) rfl rfl (does_assign (u := (Bo (isView A_v_))) (ev rfl)) rfl ?_
  refine wpList_nil (hK38 _ _ ?_)
  refine wp_ret ?_
  refine ret_val (v := (Bo (isView A_v_))) (res_T rfl (slot rfl)) X41 ?_
  exact rfl

/- laws.toFloat32S -/
theorem c_laws_toFloat32S (a : Value) (L_a : List Nat) (w : World) (hv_a : Sl RF 1 w a L_a) (hsz : L_a.length ≤ 1048576) : Gives Try.prog 84 #[a] w (fun v w' => ∃ y_1 : Value, ∃ Lw_2 : List Nat, v = y_1 ∧ Hang w.heap.size w' (fun u => Sl RF 1 u y_1 L_a) ∧ WL 1 w.heap.size w' Lw_2 y_1 L_a.length) := by
  have hlen_a := Sl.len hv_a; obtain ⟨p_a, q_a, rfl⟩ := Sl.shape hv_a
  refine enter [(.slice p_a L_a.length q_a), Ud, Ud, Ud, Ud, Ud, Ud, Ud, Ud, Ud, Ud, Ud, Ud, Ud, Ud, Ud, Ud, Ud, Ud, Ud, Ud, Ud] Try.func84 rfl Try.ntmps84 rfl ?_
  refine wp_seq_k fun K1 hK1 => ?_
  refine wp_region_lit ?_
  refine q_is (l' := [(.slice p_a L_a.length q_a), Ud, (.slice none 0 0), Ud, Ud, Ud, Ud, Ud, Ud, Ud, Ud, Ud, Ud, Ud, Ud, Ud, Ud, Ud, Ud, Ud, Ud, Ud]) rfl rfl (does_assign (u := (.slice none 0 0)) (ev rfl)) rfl ?_
  refine wpList_nil (hK1 _ _ ?_)
  refine wp_seq_k fun K2 hK2 => ?_
  refine wp_region_lit ?_
  refine q_is (l' := [(.slice p_a L_a.length q_a), Ud, (.slice none 0 0), Ud, Ud, (.slice p_a L_a.length q_a), Ud, Ud, Ud, Ud, Ud, Ud, Ud, Ud, Ud, Ud, Ud, Ud, Ud, Ud, Ud, Ud]) rfl rfl (does_move (u := (.slice p_a L_a.length q_a)) (ev rfl)) rfl ?_
  refine q_is (l' := [(.slice p_a L_a.length q_a), Ud, (.slice none 0 0), Ud, Ud, (.slice p_a L_a.length q_a), (Iv (L_a.length : Int)), Ud, Ud, Ud, Ud, Ud, Ud, Ud, Ud, Ud, Ud, Ud, Ud, Ud, Ud, Ud]) rfl rfl (does_len_slice Try.underlying97 (ev rfl)) rfl ?_
  refine seqd rfl rfl (does_makeSlice (n := L_a.length) Try.underlying97 inf38 (ev rfl) (ev rfl) (by omega)) ?_; rintro _ w7 ⟨b3, rfl, hb4, ⟨cs8, hB5, hl9, hz10⟩, E6⟩
  have g11 : w.heap.size ≤ b3 := Nat.le_trans (Below.size (Ext.refl w)) hb4
  have X12 := Ext.gr (Ext.refl w) E6
  show wpList _ _ _ _ (fr [(.slice p_a L_a.length q_a), Ud, (.slice none 0 0), Ud, Ud, (.slice p_a L_a.length q_a), (Iv (L_a.length : Int)), (.slice (some ⟨b3, 0, none⟩) L_a.length L_a.length), Ud, Ud, Ud, Ud, Ud, Ud, Ud, Ud, Ud, Ud, Ud, Ud, Ud, Ud]) _
  refine q_is (l' := [(.slice p_a L_a.length q_a), Ud, (.slice none 0 0), (.slice (some ⟨b3, 0, none⟩) L_a.length L_a.length), Ud, (.slice p_a L_a.length q_a), (Iv (L_a.length : Int)), (.slice (some ⟨b3, 0, none⟩) L_a.length L_a.length), Ud, Ud, Ud, Ud, Ud, Ud, Ud, Ud, Ud, Ud, Ud, Ud, Ud, Ud]) rfl rfl (does_assign (u := (.slice (some ⟨b3, 0, none⟩) L_a.length L_a.length)) (ev rfl)) rfl ?_
  refine wpList_nil (hK2 _ _ ?_)
  refine wp_seq_k fun K13 hK13 => ?_
  refine wp_seq_k fun K14 hK14 => ?_
  refine wp_region_lit ?_
  refine q_is (l' := [(.slice p_a L_a.length q_a), Ud, (.slice none 0 0), (.slice (some ⟨b3, 0, none⟩) L_a.length L_a.length), (Iv 0), (.slice p_a L_a.length q_a), (Iv (L_a.length : Int)), (.slice (some ⟨b3, 0, none⟩) L_a.length L_a.length), Ud, Ud, Ud, Ud, Ud, Ud, Ud, Ud, Ud, Ud, Ud, Ud, Ud, Ud]) rfl rfl (does_assign (u := (Iv 0)) (ev rfl)) rfl ?_
  refine wpList_nil (hK14 _ _ ?_)
  refine wp_block ?_
  have hF0 : Fill RF 1 w7 b3 L_a.length L_a 0 := Fill.zero hB5 hl9
  refine loop_ghost (σ := Nat) (fun k a w' => ∃ u15 : Nat → Value, a = fr [(.slice p_a L_a.length q_a), Ud, (.slice none 0 0), (.slice (some ⟨b3, 0, none⟩) L_a.length L_a.length), (Iv (k : Int)), (.slice p_a L_a.length q_a), (Iv (L_a.length : Int)), (.slice (some ⟨b3, 0, none⟩) L_a.length L_a.length), (u15 8), (u15 9), (u15 10), (u15 11), (u15 12), (u15 13), (u15 14), (u15 15), (u15 16), (u15 17), (u15 18), (u15 19), (u15 20), Ud] ∧ KpL [b3] w7 w' ∧ Fill RF 1 w' b3 L_a.length L_a k ∧ (k ≤ L_a.length)) (fun k => L_a.length - k) 0 ?_ ?_
  · refine ⟨fun t => (([(.slice p_a L_a.length q_a), Ud, (.slice none 0 0), (.slice (some ⟨b3, 0, none⟩) L_a.length L_a.length), (Iv 0), (.slice p_a L_a.length q_a), (Iv (L_a.length : Int)), (.slice (some ⟨b3, 0, none⟩) L_a.length L_a.length), Ud, Ud, Ud, Ud, Ud, Ud, Ud, Ud, Ud, Ud, Ud, Ud, Ud, Ud] : List Value)[t]?).getD undef, rfl, KpL.refl _ _, hF0, ?_⟩
    exact Nat.zero_le _
  · rintro k a w16 ⟨u15, rfl, E17, hF18, hk⟩
    have X19 := Below.kl X12 E17 (allS g11 all0) (Nat.le_refl _)
    refine wp_seq_k fun K20 hK20 => ?_
    refine wp_seq_k fun K21 hK21 => ?_
    refine wp_region_lit ?_
    refine q_is (l' := [(.slice p_a L_a.length q_a), Ud, (.slice none 0 0), (.slice (some ⟨b3, 0, none⟩) L_a.length L_a.length), (Iv (k : Int)), (.slice p_a L_a.length q_a), (Iv (L_a.length : Int)), (.slice (some ⟨b3, 0, none⟩) L_a.length L_a.length), (Iv (k : Int)), (u15 9), (u15 10), (u15 11), (u15 12), (u15 13), (u15 14), (u15 15), (u15 16), (u15 17), (u15 18), (u15 19), (u15 20), Ud]) rfl rfl (does_move (u := (Iv (k : Int))) (ev rfl)) rfl ?_
    refine q_is (l' := [(.slice p_a L_a.length q_a), Ud, (.slice none 0 0), (.slice (some ⟨b3, 0, none⟩) L_a.length L_a.length), (Iv (k : Int)), (.slice p_a L_a.length q_a), (Iv (L_a.length : Int)), (.slice (some ⟨b3, 0, none⟩) L_a.length L_a.length), (Iv (k : Int)), (.slice p_a L_a.length q_a), (u15 10), (u15 11), (u15 12), (u15 13), (u15 14), (u15 15), (u15 16), (u15 17), (u15 18), (u15 19), (u15 20), Ud]) rfl rfl (does_move (u := (.slice p_a L_a.length q_a)) (ev rfl)) rfl ?_
    refine q_is (l' := [(.slice p_a L_a.length q_a), Ud, (.slice none 0 0), (.slice (some ⟨b3, 0, none⟩) L_a.length L_a.length), (Iv (k : Int)), (.slice p_a L_a.length q_a), (Iv (L_a.length : Int)), (.slice (some ⟨b3, 0, none⟩) L_a.length L_a.length), (Iv (k : Int)), (.slice p_a L_a.length q_a), (Iv (L_a.length : Int)), (u15 11), (u15 12), (u15 13), (u15 14), (u15 15), (u15 16), (u15 17), (u15 18), (u15 19), (u15 20), Ud]) rfl rfl (does_len_slice Try.underlying97 (ev rfl)) rfl ?_
    refine q_is (l' := [(.slice p_a L_a.length q_a), Ud, (.slice none 0 0), (.slice (some ⟨b3, 0, none⟩) L_a.length L_a.length), (Iv (k : Int)), (.slice p_a L_a.length q_a), (Iv (L_a.length : Int)), (.slice (some ⟨b3, 0, none⟩) L_a.length L_a.length), (Iv (k : Int)), (.slice p_a L_a.length q_a), (Iv (L_a.length : Int)), (Bo (icmp .lss (k : Int) (L_a.length : Int))), (u15 12), (u15 13), (u15 14), (u15 15), (u15 16), (u15 17), (u15 18), (u15 19), (u15 20), Ud]) rfl rfl (does_icmp (p := (k : Int)) (q := (L_a.length : Int)) (.inr (.inr (.inl rfl))) (ev rfl) (ev rfl)) rfl ?_
    refine wpList_nil (hK21 _ _ ?_)
    refine wp_cond_split (t := icmp .lss (k : Int) (L_a.length : Int)) (ev rfl) (fun c22 => ?_) (fun c22 => ?_)
    · have c22' := c22
      (try simp only [icmp, Bool.and_eq_true, Bool.or_eq_true, Bool.and_eq_false_iff, Bool.or_eq_false_iff, Bool.not_eq_true', Bool.not_eq_false', decide_eq_true_eq, decide_eq_false_iff_not, beq_iff_eq, bne_iff_ne, beq_eq_false_iff_ne, bne_eq_false_iff_eq] at c22')
      refine wp_skip (hK20 _ _ ?_)
      refine wp_seq_k fun K23 hK23 => ?_
      refine wp_block ?_
      refine wp_region_lit ?_
      refine q_is (l' := [(.slice p_a L_a.length q_a), Ud, (.slice none 0 0), (.slice (some ⟨b3, 0, none⟩) L_a.length L_a.length), (Iv (k : Int)), (.slice p_a L_a.length q_a), (Iv (L_a.length : Int)), (.slice (some ⟨b3, 0, none⟩) L_a.length L_a.length), (Iv (k : Int)), (.slice p_a L_a.length q_a), (Iv (L_a.length : Int)), (Bo (icmp .lss (k : Int) (L_a.length : Int))), (u15 12), (u15 13), (.slice (some ⟨b3, 0, none⟩) L_a.length L_a.length), (u15 15), (u15 16), (u15 17), (u15 18), (u15 19), (u15 20), Ud]) rfl rfl (does_move (u := (.slice (some ⟨b3, 0, none⟩) L_a.length L_a.length)) (ev rfl)) rfl ?_
      refine q_is (l' := [(.slice p_a L_a.length q_a), Ud, (.slice none 0 0), (.slice (some ⟨b3, 0, none⟩) L_a.length L_a.length), (Iv (k : Int)), (.slice p_a L_a.length q_a), (Iv (L_a.length : Int)), (.slice (some ⟨b3, 0, none⟩) L_a.length L_a.length), (Iv (k : Int)), (.slice p_a L_a.length q_a), (Iv (L_a.length : Int)), (Bo (icmp .lss (k : Int) (L_a.length : Int))), (u15 12), (u15 13), (.slice (some ⟨b3, 0, none⟩) L_a.length L_a.length), (Iv (k : Int)), (u15 16), (u15 17), (u15 18), (u15 19), (u15 20), Ud]) rfl rfl (does_move (u := (Iv (k : Int))) (ev rfl)) rfl ?_
      refine q_is (l' := [(.slice p_a L_a.length q_a), Ud, (.slice none 0 0), (.slice (some ⟨b3, 0, none⟩) L_a.length L_a.length), (Iv (k : Int)), (.slice p_a L_a.length q_a), (Iv (L_a.length : Int)), (.slice (some ⟨b3, 0, none⟩) L_a.length L_a.length), (Iv (k : Int)), (.slice p_a L_a.length q_a), (Iv (L_a.length : Int)), (Bo (icmp .lss (k : Int) (L_a.length : Int))), (u15 12), (u15 13), (.slice (some ⟨b3, 0, none⟩) L_a.length L_a.length), (Iv (k : Int)), (.slice p_a L_a.length q_a), (u15 17), (u15 18), (u15 19), (u15 20), Ud]) rfl rfl (does_move (u := (.slice p_a L_a.length q_a)) (ev rfl)) rfl ?_
      refine q_is (l' := [(.slice p_a L_a.length q_a), Ud, (.slice none 0 0), (.slice (some ⟨b3, 0, none⟩) L_a.length L_a.length), (Iv (k : Int)), (.slice p_a L_a.length q_a), (Iv (L_a.length : Int)), (.slice (some ⟨b3, 0, none⟩) L_a.length L_a.length), (Iv (k : Int)), (.slice p_a L_a.length q_a), (Iv (L_a.length : Int)), (Bo (icmp .lss (k : Int) (L_a.length : Int))), (u15 12), (u15 13), (.slice (some ⟨b3, 0, none⟩) L_a.length L_a.length), (Iv (k : Int)), (.slice p_a L_a.length q_a), (Iv (k : Int)), (u15 18), (u15 19), (u15 20), Ud]) rfl rfl (does_move (u := (Iv (k : Int))) (ev rfl)) rfl ?_
      obtain ⟨el1, hel1⟩ : ∃ e, L_a[k]? = some e := ⟨_, List.getElem?_eq_getElem (by omega)⟩
      refine seqd rfl rfl (does_indexSl (R := RF) (i := (k : Int)) (xs := L_a) (e := el1) Try.underlying97 Try.sizeOf38 (ev rfl) (ev rfl) (Sl.ext hv_a RF.mono X19) (by omega) hel1) ?_; rintro _ w16 ⟨b24, o25, _, rfl, hc27, ⟨r28, rfl, h29⟩, rfl⟩
      show wpList _ _ _ _ (fr [(.slice p_a L_a.length q_a), Ud, (.slice none 0 0), (.slice (some ⟨b3, 0, none⟩) L_a.length L_a.length), (Iv (k : Int)), (.slice p_a L_a.length q_a), (Iv (L_a.length : Int)), (.slice (some ⟨b3, 0, none⟩) L_a.length L_a.length), (Iv (k : Int)), (.slice p_a L_a.length q_a), (Iv (L_a.length : Int)), (Bo (icmp .lss (k : Int) (L_a.length : Int))), (u15 12), (u15 13), (.slice (some ⟨b3, 0, none⟩) L_a.length L_a.length), (Iv (k : Int)), (.slice p_a L_a.length q_a), (Iv (k : Int)), (Pt b24 o25), (u15 19), (u15 20), Ud]) _
      refine q_is (l' := [(.slice p_a L_a.length q_a), Ud, (.slice none 0 0), (.slice (some ⟨b3, 0, none⟩) L_a.length L_a.length), (Iv (k : Int)), (.slice p_a L_a.length q_a), (Iv (L_a.length : Int)), (.slice (some ⟨b3, 0, none⟩) L_a.length L_a.length), (Iv (k : Int)), (.slice p_a L_a.length q_a), (Iv (L_a.length : Int)), (Bo (icmp .lss (k : Int) (L_a.length : Int))), (u15 12), (u15 13), (.slice (some ⟨b3, 0, none⟩) L_a.length L_a.length), (Iv (k : Int)), (.slice p_a L_a.length q_a), (Iv (k : Int)), (Pt b24 o25), (Fl r28), (u15 20), Ud]) rfl rfl (does_load (u := (Fl r28)) (ev rfl) Try.isAgg38 (Cells.at hc27 0 rfl)) rfl ?_
      refine q_is (l' := [(.slice p_a L_a.length q_a), Ud, (.slice none 0 0), (.slice (some ⟨b3, 0, none⟩) L_a.length L_a.length), (Iv (k : Int)), (.slice p_a L_a.length q_a), (Iv (L_a.length : Int)), (.slice (some ⟨b3, 0, none⟩) L_a.length L_a.length), (Iv (k : Int)), (.slice p_a L_a.length q_a), (Iv (L_a.length : Int)), (Bo (icmp .lss (k : Int) (L_a.length : Int))), (u15 12), (u15 13), (.slice (some ⟨b3, 0, none⟩) L_a.length L_a.length), (Iv (k : Int)), (.slice p_a L_a.length q_a), (Iv (k : Int)), (Pt b24 o25), (Fl r28), (Pt b3 (k * 1)), Ud]) rfl rfl (does_indexOwn (b := b3) (n := L_a.length) (i := (k : Int)) Try.underlying97 Try.sizeOf38 (ev rfl) (ev rfl) (by omega) (by omega)) rfl ?_
      refine seqn rfl rfl (does_fill (R := RF) (k := 1) (n := L_a.length) (j := k) (xs := L_a) (u := (Fl r28)) (e := el1) (ev rfl) (ev rfl) Try.sizeOf38 rfl rfl hF18 (by omega) hel1 (fun _ => ⟨_, rfl, h29⟩) (fun _ _ _ _ h => h)) ?_; rintro _ w32 ⟨rfl, W30, hF31⟩
      have X33 := Below.wr X19 W30 g11
      refine wpList_nil (hK23 _ _ ?_)
      refine wp_region_lit ?_
      refine q_is (l' := [(.slice p_a L_a.length q_a), Ud, (.slice none 0 0), (.slice (some ⟨b3, 0, none⟩) L_a.length L_a.length), (Iv (k : Int)), (.slice p_a L_a.length q_a), (Iv (L_a.length : Int)), (.slice (some ⟨b3, 0, none⟩) L_a.length L_a.length), (Iv (k : Int)), (.slice p_a L_a.length q_a), (Iv (L_a.length : Int)), (Bo (icmp .lss (k : Int) (L_a.length : Int))), (Iv (k : Int)), (u15 13), (.slice (some ⟨b3, 0, none⟩) L_a.length L_a.length), (Iv (k : Int)), (.slice p_a L_a.length q_a), (Iv (k : Int)), (Pt b24 o25), (Fl r28), (Pt b3 (k * 1)), Ud]) rfl rfl (does_move (u := (Iv (k : Int))) (ev rfl)) rfl ?_
      refine q_is (l' := [(.slice p_a L_a.length q_a), Ud, (.slice none 0 0), (.slice (some ⟨b3, 0, none⟩) L_a.length L_a.length), (Iv (k : Int)), (.slice p_a L_a.length q_a), (Iv (L_a.length : Int)), (.slice (some ⟨b3, 0, none⟩) L_a.length L_a.length), (Iv (k : Int)), (.slice p_a L_a.length q_a), (Iv (L_a.length : Int)), (Bo (icmp .lss (k : Int) (L_a.length : Int))), (Iv (k : Int)), (Iv ((k : Int) + 1)), (.slice (some ⟨b3, 0, none⟩) L_a.length L_a.length), (Iv (k : Int)), (.slice p_a L_a.length q_a), (Iv (k : Int)), (Pt b24 o25), (Fl r28), (Pt b3 (k * 1)), Ud]) rfl rfl (does_iarith (p := (k : Int)) (q := 1) (r := (k : Int) + 1) (ev rfl) (ev rfl) (.inl ⟨rfl, (in_i64 (by omega) (by omega)).symm⟩)) rfl ?_
      refine q_is (l' := [(.slice p_a L_a.length q_a), Ud, (.slice none 0 0), (.slice (some ⟨b3, 0, none⟩) L_a.length L_a.length), (Iv ((k : Int) + 1)), (.slice p_a L_a.length q_a), (Iv (L_a.length : Int)), (.slice (some ⟨b3, 0, none⟩) L_a.length L_a.length), (Iv (k : Int)), (.slice p_a L_a.length q_a), (Iv (L_a.length : Int)), (Bo (icmp .lss (k : Int) (L_a.length : Int))), (Iv (k : Int)), (Iv ((k : Int) + 1)), (.slice (some ⟨b3, 0, none⟩) L_a.length L_a.length), (Iv (k : Int)), (.slice p_a L_a.length q_a), (Iv (k : Int)), (Pt b24 o25), (Fl r28), (Pt b3 (k * 1)), Ud]) rfl rfl (does_assign (u := (Iv ((k : Int) + 1))) (ev rfl)) rfl ?_
      refine wpList_nil ?_
      refine ⟨k + 1, ⟨fun t => (([(.slice p_a L_a.length q_a), Ud, (.slice none 0 0), (.slice (some ⟨b3, 0, none⟩) L_a.length L_a.length), (Iv ((k : Int) + 1)), (.slice p_a L_a.length q_a), (Iv (L_a.length : Int)), (.slice (some ⟨b3, 0, none⟩) L_a.length L_a.length), (Iv (k : Int)), (.slice p_a L_a.length q_a), (Iv (L_a.length : Int)), (Bo (icmp .lss (k : Int) (L_a.length : Int))), (Iv (k : Int)), (Iv ((k : Int) + 1)), (.slice (some ⟨b3, 0, none⟩) L_a.length L_a.length), (Iv (k : Int)), (.slice p_a L_a.length q_a), (Iv (k : Int)), (Pt b24 o25), (Fl r28), (Pt b3 (k * 1)), Ud] : List Value)[t]?).getD undef, ?_, (KpL.more E17 (KpL.of_wr W30) (allS (.inl (by simp)) all0)), hF31, ?_⟩, ?_⟩
      · first | rfl | (simp only [Nat.cast_add, Nat.cast_one, Int.natCast_add, Int.natCast_one]; rfl)
      · omega
      · omega
    have c22' := c22
    (try simp only [icmp, Bool.and_eq_true, Bool.or_eq_true, Bool.and_eq_false_iff, Bool.or_eq_false_iff, Bool.not_eq_true', Bool.not_eq_false', decide_eq_true_eq, decide_eq_false_iff_not, beq_iff_eq, bne_iff_ne, beq_eq_false_iff_ne, bne_eq_false_iff_eq] at c22')
    refine wp_exit ?_
    refine hK13 _ _ ?_
    refine wp_seq_k fun K34 hK34 => ?_
    refine wp_region_lit ?_
    refine q_is (l' := [(.slice p_a L_a.length q_a), Ud, (.slice none 0 0), (.slice (some ⟨b3, 0, none⟩) L_a.length L_a.length), (Iv (k : Int)), (.slice p_a L_a.length q_a), (Iv (L_a.length : Int)), (.slice (some ⟨b3, 0, none⟩) L_a.length L_a.length), (Iv (k : Int)), (.slice p_a L_a.length q_a), (Iv (L_a.length : Int)), (Bo (icmp .lss (k : Int) (L_a.length : Int))), (u15 12), (u15 13), (u15 14), (u15 15), (u15 16), (u15 17), (u15 18), (u15 19), (u15 20), (.slice (some ⟨b3, 0, none⟩) L_a.length L_a.length)]) rfl rfl (does_move (u := (.slice (some ⟨b3, 0, none⟩) L_a.length L_a.length)) (ev rfl)) rfl ?_
    refine q_is (l' := [(.slice p_a L_a.length q_a), Ud, (.slice (some ⟨b3, 0, none⟩) L_a.length L_a.length), (.slice (some ⟨b3, 0, none⟩) L_a.length L_a.length), (Iv (k : Int)), (.slice p_a L_a.length q_a), (Iv (L_a.length : Int)), (.slice (some ⟨b3, 0, none⟩) L_a.length L_a.length), (Iv (k : Int)), (.slice p_a L_a.length q_a), (Iv (L_a.length : Int)), (Bo (icmp .lss (k : Int) (L_a.length : Int))), (u15 12), (u15 13), (u15 14), (u15 15), (u15 16), (u15 17), (u15 18), (u15 19), (u15 20), (.slice (some ⟨b3, 0, none⟩) L_a.length L_a.length)]) rfl rfl (does_assign (u := (.slice (some ⟨b3, 0, none⟩) L_a.length L_a.length)) (ev rfl)) rfl ?_
    refine wpList_nil (hK34 _ _ ?_)
    refine wp_ret ?_
    refine ret_val (v := (.slice (some ⟨b3, 0, none⟩) L_a.length L_a.length)) (res_T rfl (slot rfl)) X19 ?_
    exact ⟨(.slice (some ⟨b3, 0, none⟩) L_a.length L_a.length), [b3], rfl, (Fill.hang hF18 RF.flat g11 (by omega) rfl (by omega) (by decide)), (Fill.wl hF18 g11)⟩

/- laws.toNode -/
theorem c_laws_toNode (a : List Value) (A_a : NodeT) (w : World) (hv_a : RNodeT w A_a a) (hsz : A_a.nums.length ≤ 1048576) : Gives Try.prog 54 #[(.agg a.toArray)] w (fun v w' => ∃ cs_1 : List Value, v = (.agg cs_1.toArray) ∧ Hang w.heap.size w' (fun u => RNodeT u A_a cs_1)) := by
  obtain ⟨y1, rfl, h2⟩ := hv_a
  have hs5 := h2; have hs5l := Sl.len h2; obtain ⟨p3, q4, rfl⟩ := Sl.shape h2
  refine enter [(.agg #[(Iv A_a.kind), (Iv A_a.a), (Iv A_a.b), (.slice p3 A_a.nums.length q4)]), Ud, Ud, Ud, Ud, Ud, Ud, Ud, Ud, Ud, Ud, Ud, Ud, Ud, Ud, Ud, Ud, Ud] Try.func54 rfl Try.ntmps54 rfl ?_
  refine wp_seq_k fun K6 hK6 => ?_
  refine wp_region_lit ?_
  refine seqd rfl rfl (does_box (u := (.agg #[(Iv A_a.kind), (Iv A_a.a), (Iv A_a.b), (.slice p3 A_a.nums.length q4)])) (ev rfl)) ?_; rintro _ w11 ⟨b7, rfl, hb8, hB9, E10⟩
  have g12 : w.heap.size ≤ b7 := Nat.le_trans (Below.size (Ext.refl w)) hb8
  change Blk _ _ [(Iv A_a.kind), (Iv A_a.a), (Iv A_a.b), (.slice p3 A_a.nums.length q4)] at hB9
  have X13 := Ext.gr (Ext.refl w) E10
  show wpList _ _ _ _ (fr [(.agg #[(Iv A_a.kind), (Iv A_a.a), (Iv A_a.b), (.slice p3 A_a.nums.length q4)]), (Pt b7 0), Ud, Ud, Ud, Ud, Ud, Ud, Ud, Ud, Ud, Ud, Ud, Ud, Ud, Ud, Ud, Ud]) _
  refine seqd rfl rfl (does_alloc z102) ?_; rintro _ w18 ⟨b14, rfl, hb15, hB16, E17⟩
  have n19 : b7 < b14 := Nat.lt_of_lt_of_le (Blk.lt hB9) hb15
  have g20 : w.heap.size ≤ b14 := Nat.le_trans (Below.size X13) hb15
  change Blk _ _ [(Iv 0), (Iv 0), (Iv 0), (.slice none 0 0)] at hB16
  have X21 := Ext.gr X13 E17
  show wpList _ _ _ _ (fr [(.agg #[(Iv A_a.kind), (Iv A_a.a), (Iv A_a.b), (.slice p3 A_a.nums.length q4)]), (Pt b7 0), (Pt b14 0), Ud, Ud, Ud, Ud, Ud, Ud, Ud, Ud, Ud, Ud, Ud, Ud, Ud, Ud, Ud]) _
  refine wpList_nil (hK6 _ _ ?_)
  refine wp_seq_k fun K22 hK22 => ?_
  refine wp_region_lit ?_
  refine seqd rfl rfl (does_alloc z102) ?_; rintro _ w27 ⟨b23, rfl, hb24, hB25, E26⟩
  have n28 : b7 < b23 := Nat.lt_of_lt_of_le (Blk.lt (hB9.ext E17)) hb24
  have n29 : b14 < b23 := Nat.lt_of_lt_of_le (Blk.lt hB16) hb24
  have g30 : w.heap.size ≤ b23 := Nat.le_trans (Below.size X21) hb24
  change Blk _ _ [(Iv 0), (Iv 0), (Iv 0), (.slice none 0 0)] at hB25
  have X31 := Ext.gr X21 E26
  show wpList _ _ _ _ (fr [(.agg #[(Iv A_a.kind), (Iv A_a.a), (Iv A_a.b), (.slice p3 A_a.nums.length q4)]), (Pt b7 0), (Pt b14 0), (Pt b23 0), Ud, Ud, Ud, Ud, Ud, Ud, Ud, Ud, Ud, Ud, Ud, Ud, Ud, Ud]) _
  refine wpList_nil (hK22 _ _ ?_)
  refine wp_seq_k fun K32 hK32 => ?_
  refine wp_region_lit ?_
  refine q_is (l' := [(.agg #[(Iv A_a.kind), (Iv A_a.a), (Iv A_a.b), (.slice p3 A_a.nums.length q4)]), (Pt b7 0), (Pt b14 0), (Pt b23 0), (Pt b7 0), Ud, Ud, Ud, Ud, Ud, Ud, Ud, Ud, Ud, Ud, Ud, Ud, Ud]) rfl rfl (does_fieldAddr (ev rfl) fa99_0) rfl ?_
  refine q_is (l' := [(.agg #[(Iv A_a.kind), (Iv A_a.a), (Iv A_a.b), (.slice p3 A_a.nums.length q4)]), (Pt b7 0), (Pt b14 0), (Pt b23 0), (Pt b7 0), (Iv A_a.kind), Ud, Ud, Ud, Ud, Ud, Ud, Ud, Ud, Ud, Ud, Ud, Ud]) rfl rfl (does_load (u := (Iv A_a.kind)) (ev rfl) Try.isAgg2 (Cells.at (Blk.cells ((hB9.ext E17).ext E26)) 0 rfl)) rfl ?_
  refine q_is (l' := [(.agg #[(Iv A_a.kind), (Iv A_a.a), (Iv A_a.b), (.slice p3 A_a.nums.length q4)]), (Pt b7 0), (Pt b14 0), (Pt b23 0), (Pt b7 0), (Iv A_a.kind), (Pt b23 0), Ud, Ud, Ud, Ud, Ud, Ud, Ud, Ud, Ud, Ud, Ud]) rfl rfl (does_fieldAddr (ev rfl) fa102_0) rfl ?_
  refine seqn rfl rfl (does_store (n := 1) (cs := [(Iv 0), (Iv 0), (Iv 0), (.slice none 0 0)]) (u := (Iv A_a.kind)) (ev rfl) (ev rfl) Try.sizeOf2 rfl hB25 (Nat.le_of_ble_eq_true rfl) rfl) ?_; rintro _ w35 ⟨rfl, W33, hB34⟩
  change Blk _ _ [(Iv A_a.kind), (Iv 0), (Iv 0), (.slice none 0 0)] at hB34
  have X36 := Below.wr X31 W33 g30
  refine wpList_nil (hK32 _ _ ?_)
  refine wp_seq_k fun K37 hK37 => ?_
  refine wp_region_lit ?_
  refine q_is (l' := [(.agg #[(Iv A_a.kind), (Iv A_a.a), (Iv A_a.b), (.slice p3 A_a.nums.length q4)]), (Pt b7 0), (Pt b14 0), (Pt b23 0), (Pt b7 0), (Iv A_a.kind), (Pt b23 0), (Pt b7 1), Ud, Ud, Ud, Ud, Ud, Ud, Ud, Ud, Ud, Ud]) rfl rfl (does_fieldAddr (ev rfl) fa99_1) rfl ?_
  refine q_is (l' := [(.agg #[(Iv A_a.kind), (Iv A_a.a), (Iv A_a.b), (.slice p3 A_a.nums.length q4)]), (Pt b7 0), (Pt b14 0), (Pt b23 0), (Pt b7 0), (Iv A_a.kind), (Pt b23 0), (Pt b7 1), (Iv A_a.a), Ud, Ud, Ud, Ud, Ud, Ud, Ud, Ud, Ud]) rfl rfl (does_load (u := (Iv A_a.a)) (ev rfl) Try.isAgg2 (Cells.at (Blk.cells (((hB9.ext E17).ext E26).wr W33 (Nat.ne_of_lt n28))) 1 rfl)) rfl ?_
  refine q_is (l' := [(.agg #[(Iv A_a.kind), (Iv A_a.a), (Iv A_a.b), (.slice p3 A_a.nums.length q4)]), (Pt b7 0), (Pt b14 0), (Pt b23 0), (Pt b7 0), (Iv A_a.kind), (Pt b23 0), (Pt b7 1), (Iv A_a.a), (Pt b23 1), Ud, Ud, Ud, Ud, Ud, Ud, Ud, Ud]) rfl rfl (does_fieldAddr (ev rfl) fa102_1) rfl ?_
  refine seqn rfl rfl (does_store (n := 1) (cs := [(Iv A_a.kind), (Iv 0), (Iv 0), (.slice none 0 0)]) (u := (Iv A_a.a)) (ev rfl) (ev rfl) Try.sizeOf2 rfl hB34 (Nat.le_of_ble_eq_true rfl) rfl) ?_; rintro _ w40 ⟨rfl, W38, hB39⟩
  change Blk _ _ [(Iv A_a.kind), (Iv A_a.a), (Iv 0), (.slice none 0 0)] at hB39
  have X41 := Below.wr X36 W38 g30
  refine wpList_nil (hK37 _ _ ?_)
  refine wp_seq_k fun K42 hK42 => ?_
  refine wp_region_lit ?_
  refine q_is (l' := [(.agg #[(Iv A_a.kind), (Iv A_a.a), (Iv A_a.b), (.slice p3 A_a.nums.length q4)]), (Pt b7 0), (Pt b14 0), (Pt b23 0), (Pt b7 0), (Iv A_a.kind), (Pt b23 0), (Pt b7 1), (Iv A_a.a), (Pt b23 1), (Pt b7 2), Ud, Ud, Ud, Ud, Ud, Ud, Ud]) rfl rfl (does_fieldAddr (ev rfl) fa99_2) rfl ?_
  refine q_is (l' := [(.agg #[(Iv A_a.kind), (Iv A_a.a), (Iv A_a.b), (.slice p3 A_a.nums.length q4)]), (Pt b7 0), (Pt b14 0), (Pt b23 0), (Pt b7 0), (Iv A_a.kind), (Pt b23 0), (Pt b7 1), (Iv A_a.a), (Pt b23 1), (Pt b7 2), (Iv A_a.b), Ud, Ud, Ud, Ud, Ud, Ud]) rfl rfl (does_load (u := (Iv A_a.b)) (ev rfl) Try.isAgg2 (Cells.at (Blk.cells ((((hB9.ext E17).ext E26).wr W33 (Nat.ne_of_lt n28)).wr W38 (Nat.ne_of_lt n28))) 2 rfl)) rfl ?_
  refine q_is (l' := [(.agg #[(Iv A_a.kind), (Iv A_a.a), (Iv A_a.b), (.slice p3 A_a.nums.length q4)]), (Pt b7 0), (Pt b14 0), (Pt b23 0), (Pt b7 0), (Iv A_a.kind), (Pt b23 0), (Pt b7 1), (Iv A_a.a), (Pt b23 1), (Pt b7 2), (Iv A_a.b), (Pt b23 2), Ud, Ud, Ud, Ud, Ud]) rfl rfl (does_fieldAddr (ev rfl) fa102_2) rfl ?_
  refine seqn rfl rfl (does_store (n := 1) (cs := [(Iv A_a.kind), (Iv A_a.a), (Iv 0), (.slice none 0 0)]) (u := (Iv A_a.b)) (ev rfl) (ev rfl) Try.sizeOf2 rfl hB39 (Nat.le_of_ble_eq_true rfl) rfl) ?_; rintro _ w45 ⟨rfl, W43, hB44⟩
  change Blk _ _ [(Iv A_a.kind), (Iv A_a.a), (Iv A_a.b), (.slice none 0 0)] at hB44
  have X46 := Below.wr X41 W43 g30
  refine wpList_nil (hK42 _ _ ?_)
  refine wp_seq_k fun K47 hK47 => ?_
  refine wp_region_lit ?_
  refine q_is (l' := [(.agg #[(Iv A_a.kind), (Iv A_a.a), (Iv A_a.b), (.slice p3 A_a.nums.length q4)]), (Pt b7 0), (Pt b14 0), (Pt b23 0), (Pt b7 0), (Iv A_a.kind), (Pt b23 0), (Pt b7 1), (Iv A_a.a), (Pt b23 1), (Pt b7 2), (Iv A_a.b), (Pt b23 2), (Pt b7 3), Ud, Ud, Ud, Ud]) rfl rfl (does_fieldAddr (ev rfl) fa99_3) rfl ?_
  refine q_is (l' := [(.agg #[(Iv A_a.kind), (Iv A_a.a), (Iv A_a.b), (.slice p3 A_a.nums.length q4)]), (Pt b7 0), (Pt b14 0), (Pt b23 0), (Pt b7 0), (Iv A_a.kind), (Pt b23 0), (Pt b7 1), (Iv A_a.a), (Pt b23 1), (Pt b7 2), (Iv A_a.b), (Pt b23 2), (Pt b7 3), (.slice p3 A_a.nums.length q4), Ud, Ud, Ud]) rfl rfl (does_load (u := (.slice p3 A_a.nums.length q4)) (ev rfl) Try.isAgg97 (Cells.at (Blk.cells (((((hB9.ext E17).ext E26).wr W33 (Nat.ne_of_lt n28)).wr W38 (Nat.ne_of_lt n28)).wr W43 (Nat.ne_of_lt n28))) 3 rfl)) rfl ?_
  refine seqd rfl rfl (does_call (args := #[(.slice p3 A_a.nums.length q4)]) cal84 (evs rfl) (c_laws_toFloat32S (.slice p3 A_a.nums.length q4) A_a.nums _ (Sl.ext hs5 RF.mono X46) (by omega))) ?_; rintro _ w49 ⟨E48, ⟨y51, Lw52, rfl, hh50, hw53⟩⟩
  have X54 := Ext.gr X46 E48
  have n55 : b7 < w45.heap.size := Blk.lt (((((hB9.ext E17).ext E26).wr W33 (Nat.ne_of_lt n28)).wr W38 (Nat.ne_of_lt n28)).wr W43 (Nat.ne_of_lt n28))
  have n56 : b14 < w45.heap.size := Blk.lt ((((hB16.ext E26).wr W33 (Nat.ne_of_lt n29)).wr W38 (Nat.ne_of_lt n29)).wr W43 (Nat.ne_of_lt n29))
  have n57 : b23 < w45.heap.size := Blk.lt hB44
  obtain ⟨p58, q59, rfl⟩ := Sl.shape hh50.get
  have hw60 : WL 1 w45.heap.size w49 Lw52 (.slice p58 A_a.nums.length q59) A_a.nums.length := hw53
  show wpList _ _ _ _ (fr [(.agg #[(Iv A_a.kind), (Iv A_a.a), (Iv A_a.b), (.slice p3 A_a.nums.length q4)]), (Pt b7 0), (Pt b14 0), (Pt b23 0), (Pt b7 0), (Iv A_a.kind), (Pt b23 0), (Pt b7 1), (Iv A_a.a), (Pt b23 1), (Pt b7 2), (Iv A_a.b), (Pt b23 2), (Pt b7 3), (.slice p3 A_a.nums.length q4), (.slice p58 A_a.nums.length q59), Ud, Ud]) _
  refine q_is (l' := [(.agg #[(Iv A_a.kind), (Iv A_a.a), (Iv A_a.b), (.slice p3 A_a.nums.length q4)]), (Pt b7 0), (Pt b14 0), (Pt b23 0), (Pt b7 0), (Iv A_a.kind), (Pt b23 0), (Pt b7 1), (Iv A_a.a), (Pt b23 1), (Pt b7 2), (Iv A_a.b), (Pt b23 2), (Pt b7 3), (.slice p3 A_a.nums.length q4), (.slice p58 A_a.nums.length q59), (Pt b23 3), Ud]) rfl rfl (does_fieldAddr (ev rfl) fa102_3) rfl ?_
  refine seqn rfl rfl (does_store (n := 1) (cs := [(Iv A_a.kind), (Iv A_a.a), (Iv A_a.b), (.slice none 0 0)]) (u := (.slice p58 A_a.nums.length q59)) (ev rfl) (ev rfl) Try.sizeOf97 rfl (hB44.ext E48) (Nat.le_of_ble_eq_true rfl) rfl) ?_; rintro _ w63 ⟨rfl, W61, hB62⟩
  change Blk _ _ [(Iv A_a.kind), (Iv A_a.a), (Iv A_a.b), (.slice p58 A_a.nums.length q59)] at hB62
  have X64 := Below.wr X54 W61 g30
  refine wpList_nil (hK47 _ _ ?_)
  refine wp_seq_k fun K65 hK65 => ?_
  refine wp_region_lit ?_
  refine q_is (l' := [(.agg #[(Iv A_a.kind), (Iv A_a.a), (Iv A_a.b), (.slice p3 A_a.nums.length q4)]), (Pt b7 0), (Pt b14 0), (Pt b23 0), (Pt b7 0), (Iv A_a.kind), (Pt b23 0), (Pt b7 1), (Iv A_a.a), (Pt b23 1), (Pt b7 2), (Iv A_a.b), (Pt b23 2), (Pt b7 3), (.slice p3 A_a.nums.length q4), (.slice p58 A_a.nums.length q59), (Pt b23 3), (.agg #[(Iv A_a.kind), (Iv A_a.a), (Iv A_a.b), (.slice p58 A_a.nums.length q59)])]) rfl rfl (does_loadAgg (cs := [(Iv A_a.kind), (Iv A_a.a), (Iv A_a.b), (.slice p58 A_a.nums.length q59)]) (ev rfl) Try.isAgg102 Try.sizeOf102 (Blk.cells hB62) rfl) rfl ?_
  refine seqn rfl rfl (does_store (n := 4) (cs := [(Iv 0), (Iv 0), (Iv 0), (.slice none 0 0)]) (u := (.agg #[(Iv A_a.kind), (Iv A_a.a), (Iv A_a.b), (.slice p58 A_a.nums.length q59)])) (ev rfl) (ev rfl) Try.sizeOf102 rfl ((((((hB16.ext E26).wr W33 (Nat.ne_of_lt n29)).wr W38 (Nat.ne_of_lt n29)).wr W43 (Nat.ne_of_lt n29)).ext E48).wr W61 (Nat.ne_of_lt n29)) (Nat.le_of_ble_eq_true rfl) rfl) ?_; rintro _ w68 ⟨rfl, W66, hB67⟩
  change Blk _ _ [(Iv A_a.kind), (Iv A_a.a), (Iv A_a.b), (.slice p58 A_a.nums.length q59)] at hB67
  have X69 := Below.wr X64 W66 g20
  refine wpList_nil (hK65 _ _ ?_)
  refine wp_ret ?_
  refine ret_val (v := (.agg #[(Iv A_a.kind), (Iv A_a.a), (Iv A_a.b), (.slice p58 A_a.nums.length q59)])) (res_C rfl (slot rfl) (run_loadAgg (cs := [(Iv A_a.kind), (Iv A_a.a), (Iv A_a.b), (.slice p58 A_a.nums.length q59)]) Try.isAgg102 Try.sizeOf102 (Blk.cells hB67) rfl)) X69 ?_
  exact ⟨[(Iv A_a.kind), (Iv A_a.a), (Iv A_a.b), (.slice p58 A_a.nums.length q59)], rfl, fun u hu => ⟨(.slice p58 A_a.nums.length q59), rfl, ((Hang.to hh50 (((Same.refl _ _).wr W61 (.inl n57)).wr W66 (.inl n56))).le (Below.size (Below.wr (Below.wr (Below.wr (Ext.gr (Ext.gr (Ext.gr (Ext.refl _) E10) E17) E26) W33 g30) W38 g30) W43 g30))) u hu⟩⟩

/- laws.toNodeS -/
theorem c_laws_toNodeS (a : Value) (L_a : List NodeT) (w : World) (hv_a : Sl RNodeT 4 w a L_a) (hsz : L_a.length ≤ 1048576) (hall : ∀ s ∈ L_a, s.nums.length ≤ 1048576) : Gives Try.prog 25 #[a] w (fun v w' => ∃ y_1 : Value, v = y_1 ∧ Hang w.heap.size w' (fun u => Sl RNodeT 4 u y_1 L_a)) := by
  have hlen_a := Sl.len hv_a; obtain ⟨p_a, q_a, rfl⟩ := Sl.shape hv_a
  refine enter [(.slice p_a L_a.length q_a), Ud, Ud, Ud, Ud, Ud, Ud, Ud, Ud, Ud, Ud, Ud, Ud, Ud, Ud, Ud, Ud, Ud, Ud, Ud, Ud, Ud, Ud] Try.func25 rfl Try.ntmps25 rfl ?_
  refine wp_seq_k fun K1 hK1 => ?_
  refine wp_region_lit ?_
  refine q_is (l' := [(.slice p_a L_a.length q_a), Ud, (.slice none 0 0), Ud, Ud, Ud, Ud, Ud, Ud, Ud, Ud, Ud, Ud, Ud, Ud, Ud, Ud, Ud, Ud, Ud, Ud, Ud, Ud]) rfl rfl (does_assign (u := (.slice none 0 0)) (ev rfl)) rfl ?_
  refine wpList_nil (hK1 _ _ ?_)
  refine wp_seq_k fun K2 hK2 => ?_
  refine wp_region_lit ?_
  refine q_is (l' := [(.slice p_a L_a.length q_a), Ud, (.slice none 0 0), Ud, Ud, (.slice p_a L_a.length q_a), Ud, Ud, Ud, Ud, Ud, Ud, Ud, Ud, Ud, Ud, Ud, Ud, Ud, Ud, Ud, Ud, Ud]) rfl rfl (does_move (u := (.slice p_a L_a.length q_a)) (ev rfl)) rfl ?_
  refine q_is (l' := [(.slice p_a L_a.length q_a), Ud, (.slice none 0 0), Ud, Ud, (.slice p_a L_a.length q_a), (Iv (L_a.length : Int)), Ud, Ud, Ud, Ud, Ud, Ud, Ud, Ud, Ud, Ud, Ud, Ud, Ud, Ud, Ud, Ud]) rfl rfl (does_len_slice Try.underlying22 (ev rfl)) rfl ?_
  refine seqd rfl rfl (does_makeSlice (n := L_a.length) Try.underlying28 inf102 (ev rfl) (ev rfl) (by omega)) ?_; rintro _ w7 ⟨b3, rfl, hb4, ⟨cs8, hB5, hl9, hz10⟩, E6⟩
  have g11 : w.heap.size ≤ b3 := Nat.le_trans (Below.size (Ext.refl w)) hb4
  have X12 := Ext.gr (Ext.refl w) E6
  show wpList _ _ _ _ (fr [(.slice p_a L_a.length q_a), Ud, (.slice none 0 0), Ud, Ud, (.slice p_a L_a.length q_a), (Iv (L_a.length : Int)), (.slice (some ⟨b3, 0, none⟩) L_a.length L_a.length), Ud, Ud, Ud, Ud, Ud, Ud, Ud, Ud, Ud, Ud, Ud, Ud, Ud, Ud, Ud]) _
  refine q_is (l' := [(.slice p_a L_a.length q_a), Ud, (.slice none 0 0), (.slice (some ⟨b3, 0, none⟩) L_a.length L_a.length), Ud, (.slice p_a L_a.length q_a), (Iv (L_a.length : Int)), (.slice (some ⟨b3, 0, none⟩) L_a.length L_a.length), Ud, Ud, Ud, Ud, Ud, Ud, Ud, Ud, Ud, Ud, Ud, Ud, Ud, Ud, Ud]) rfl rfl (does_assign (u := (.slice (some ⟨b3, 0, none⟩) L_a.length L_a.length)) (ev rfl)) rfl ?_
  refine wpList_nil (hK2 _ _ ?_)
  refine wp_seq_k fun K13 hK13 => ?_
  refine wp_seq_k fun K14 hK14 => ?_
  refine wp_region_lit ?_
  refine q_is (l' := [(.slice p_a L_a.length q_a), Ud, (.slice none 0 0), (.slice (some ⟨b3, 0, none⟩) L_a.length L_a.length), (Iv 0), (.slice p_a L_a.length q_a), (Iv (L_a.length : Int)), (.slice (some ⟨b3, 0, none⟩) L_a.length L_a.length), Ud, Ud, Ud, Ud, Ud, Ud, Ud, Ud, Ud, Ud, Ud, Ud, Ud, Ud, Ud]) rfl rfl (does_assign (u := (Iv 0)) (ev rfl)) rfl ?_
  refine wpList_nil (hK14 _ _ ?_)
  refine wp_block ?_
  have hF0 : FillH RNodeT 4 w7 b3 L_a.length L_a 0 := FillH.zero hB5 hl9
  refine loop_ghost (σ := Nat) (fun k a w' => ∃ u15 : Nat → Value, a = fr [(.slice p_a L_a.length q_a), Ud, (.slice none 0 0), (.slice (some ⟨b3, 0, none⟩) L_a.length L_a.length), (Iv (k : Int)), (.slice p_a L_a.length q_a), (Iv (L_a.length : Int)), (.slice (some ⟨b3, 0, none⟩) L_a.length L_a.length), (u15 8), (u15 9), (u15 10), (u15 11), (u15 12), (u15 13), (u15 14), (u15 15), (u15 16), (u15 17), (u15 18), (u15 19), (u15 20), (u15 21), Ud] ∧ KpL [b3] w7 w' ∧ FillH RNodeT 4 w' b3 L_a.length L_a k ∧ (k ≤ L_a.length)) (fun k => L_a.length - k) 0 ?_ ?_
  · refine ⟨fun t => (([(.slice p_a L_a.length q_a), Ud, (.slice none 0 0), (.slice (some ⟨b3, 0, none⟩) L_a.length L_a.length), (Iv 0), (.slice p_a L_a.length q_a), (Iv (L_a.length : Int)), (.slice (some ⟨b3, 0, none⟩) L_a.length L_a.length), Ud, Ud, Ud, Ud, Ud, Ud, Ud, Ud, Ud, Ud, Ud, Ud, Ud, Ud, Ud] : List Value)[t]?).getD undef, rfl, KpL.refl _ _, hF0, ?_⟩
    exact Nat.zero_le _
  · rintro k a w16 ⟨u15, rfl, E17, hF18, hk⟩
    have X19 := Below.kl X12 E17 (allS g11 all0) (Nat.le_refl _)
    refine wp_seq_k fun K20 hK20 => ?_
    refine wp_seq_k fun K21 hK21 => ?_
    refine wp_region_lit ?_
    refine q_is (l' := [(.slice p_a L_a.length q_a), Ud, (.slice none 0 0), (.slice (some ⟨b3, 0, none⟩) L_a.length L_a.length), (Iv (k : Int)), (.slice p_a L_a.length q_a), (Iv (L_a.length : Int)), (.slice (some ⟨b3, 0, none⟩) L_a.length L_a.length), (Iv (k : Int)), (u15 9), (u15 10), (u15 11), (u15 12), (u15 13), (u15 14), (u15 15), (u15 16), (u15 17), (u15 18), (u15 19), (u15 20), (u15 21), Ud]) rfl rfl (does_move (u := (Iv (k : Int))) (ev rfl)) rfl ?_
    refine q_is (l' := [(.slice p_a L_a.length q_a), Ud, (.slice none 0 0), (.slice (some ⟨b3, 0, none⟩) L_a.length L_a.length), (Iv (k : Int)), (.slice p_a L_a.length q_a), (Iv (L_a.length : Int)), (.slice (some ⟨b3, 0, none⟩) L_a.length L_a.length), (Iv (k : Int)), (.slice p_a L_a.length q_a), (u15 10), (u15 11), (u15 12), (u15 13), (u15 14), (u15 15), (u15 16), (u15 17), (u15 18), (u15 19), (u15 20), (u15 21), Ud]) rfl rfl (does_move (u := (.slice p_a L_a.length q_a)) (ev rfl)) rfl ?_
    refine q_is (l' := [(.slice p_a L_a.length q_a), Ud, (.slice none 0 0), (.slice (some ⟨b3, 0, none⟩) L_a.length L_a.length), (Iv (k : Int)), (.slice p_a L_a.length q_a), (Iv (L_a.length : Int)), (.slice (some ⟨b3, 0, none⟩) L_a.length L_a.length), (Iv (k : Int)), (.slice p_a L_a.length q_a), (Iv (L_a.length : Int)), (u15 11), (u15 12), (u15 13), (u15 14), (u15 15), (u15 16), (u15 17), (u15 18), (u15 19), (u15 20), (u15 21), Ud]) rfl rfl (does_len_slice Try.underlying22 (ev rfl)) rfl ?_
    refine q_is (l' := [(.slice p_a L_a.length q_a), Ud, (.slice none 0 0), (.slice (some ⟨b3, 0, none⟩) L_a.length L_a.length), (Iv (k : Int)), (.slice p_a L_a.length q_a), (Iv (L_a.length : Int)), (.slice (some ⟨b3, 0, none⟩) L_a.length L_a.length), (Iv (k : Int)), (.slice p_a L_a.length q_a), (Iv (L_a.length : Int)), (Bo (icmp .lss (k : Int) (L_a.length : Int))), (u15 12), (u15 13), (u15 14), (u15 15), (u15 16), (u15 17), (u15 18), (u15 19), (u15 20), (u15 21), Ud]) rfl rfl (does_icmp (p := (k : Int)) (q := (L_a.length : Int)) (.inr (.inr (.inl rfl))) (ev rfl) (ev rfl)) rfl ?_
    refine wpList_nil (hK21 _ _ ?_)
    refine wp_cond_split (t := icmp .lss (k : Int) (L_a.length : Int)) (ev rfl) (fun c22 => ?_) (fun c22 => ?_)
    · have c22' := c22
      (try simp only [icmp, Bool.and_eq_true, Bool.or_eq_true, Bool.and_eq_false_iff, Bool.or_eq_false_iff, Bool.not_eq_true', Bool.not_eq_false', decide_eq_true_eq, decide_eq_false_iff_not, beq_iff_eq, bne_iff_ne, beq_eq_false_iff_ne, bne_eq_false_iff_eq] at c22')
      refine wp_skip (hK20 _ _ ?_)
      refine wp_seq_k fun K23 hK23 => ?_
      refine wp_block ?_
      refine wp_region_lit ?_
      refine q_is (l' := [(.slice p_a L_a.length q_a), Ud, (.slice none 0 0), (.slice (some ⟨b3, 0, none⟩) L_a.length L_a.length), (Iv (k : Int)), (.slice p_a L_a.length q_a), (Iv (L_a.length : Int)), (.slice (some ⟨b3, 0, none⟩) L_a.length L_a.length), (Iv (k : Int)), (.slice p_a L_a.length q_a), (Iv (L_a.length : Int)), (Bo (icmp .lss (k : Int) (L_a.length : Int))), (u15 12), (u15 13), (.slice (some ⟨b3, 0, none⟩) L_a.length L_a.length), (u15 15), (u15 16), (u15 17), (u15 18), (u15 19), (u15 20), (u15 21), Ud]) rfl rfl (does_move (u := (.slice (some ⟨b3, 0, none⟩) L_a.length L_a.length)) (ev rfl)) rfl ?_
      refine q_is (l' := [(.slice p_a L_a.length q_a), Ud, (.slice none 0 0), (.slice (some ⟨b3, 0, none⟩) L_a.length L_a.length), (Iv (k : Int)), (.slice p_a L_a.length q_a), (Iv (L_a.length : Int)), (.slice (some ⟨b3, 0, none⟩) L_a.length L_a.length), (Iv (k : Int)), (.slice p_a L_a.length q_a), (Iv (L_a.length : Int)), (Bo (icmp .lss (k : Int) (L_a.length : Int))), (u15 12), (u15 13), (.slice (some ⟨b3, 0, none⟩) L_a.length L_a.length), (Iv (k : Int)), (u15 16), (u15 17), (u15 18), (u15 19), (u15 20), (u15 21), Ud]) rfl rfl (does_move (u := (Iv (k : Int))) (ev rfl)) rfl ?_
      refine q_is (l' := [(.slice p_a L_a.length q_a), Ud, (.slice none 0 0), (.slice (some ⟨b3, 0, none⟩) L_a.length L_a.length), (Iv (k : Int)), (.slice p_a L_a.length q_a), (Iv (L_a.length : Int)), (.slice (some ⟨b3, 0, none⟩) L_a.length L_a.length), (Iv (k : Int)), (.slice p_a L_a.length q_a), (Iv (L_a.length : Int)), (Bo (icmp .lss (k : Int) (L_a.length : Int))), (u15 12), (u15 13), (.slice (some ⟨b3, 0, none⟩) L_a.length L_a.length), (Iv (k : Int)), (.slice p_a L_a.length q_a), (u15 17), (u15 18), (u15 19), (u15 20), (u15 21), Ud]) rfl rfl (does_move (u := (.slice p_a L_a.length q_a)) (ev rfl)) rfl ?_
      refine q_is (l' := [(.slice p_a L_a.length q_a), Ud, (.slice none 0 0), (.slice (some ⟨b3, 0, none⟩) L_a.length L_a.length), (Iv (k : Int)), (.slice p_a L_a.length q_a), (Iv (L_a.length : Int)), (.slice (some ⟨b3, 0, none⟩) L_a.length L_a.length), (Iv (k : Int)), (.slice p_a L_a.length q_a), (Iv (L_a.length : Int)), (Bo (icmp .lss (k : Int) (L_a.length : Int))), (u15 12), (u15 13), (.slice (some ⟨b3, 0, none⟩) L_a.length L_a.length), (Iv (k : Int)), (.slice p_a L_a.length q_a), (Iv (k : Int)), (u15 18), (u15 19), (u15 20), (u15 21), Ud]) rfl rfl (does_move (u := (Iv (k : Int))) (ev rfl)) rfl ?_
      obtain ⟨el1, hel1⟩ : ∃ e, L_a[k]? = some e := ⟨_, List.getElem?_eq_getElem (by omega)⟩
      refine seqd rfl rfl (does_indexSl (R := RNodeT) (i := (k : Int)) (xs := L_a) (e := el1) Try.underlying22 Try.sizeOf99 (ev rfl) (ev rfl) (Sl.ext hv_a RNodeT.mono X19) (by omega) hel1) ?_; rintro _ w16 ⟨b24, o25, _, rfl, hc27, ⟨y28, rfl, h29⟩, rfl⟩
      have hs32 := h29; have hs32l := Sl.len h29; obtain ⟨p30, q31, rfl⟩ := Sl.shape h29
      show wpList _ _ _ _ (fr [(.slice p_a L_a.length q_a), Ud, (.slice none 0 0), (.slice (some ⟨b3, 0, none⟩) L_a.length L_a.length), (Iv (k : Int)), (.slice p_a L_a.length q_a), (Iv (L_a.length : Int)), (.slice (some ⟨b3, 0, none⟩) L_a.length L_a.length), (Iv (k : Int)), (.slice p_a L_a.length q_a), (Iv (L_a.length : Int)), (Bo (icmp .lss (k : Int) (L_a.length : Int))), (u15 12), (u15 13), (.slice (some ⟨b3, 0, none⟩) L_a.length L_a.length), (Iv (k : Int)), (.slice p_a L_a.length q_a), (Iv (k : Int)), (Pt b24 o25), (u15 19), (u15 20), (u15 21), Ud]) _
      refine q_is (l' := [(.slice p_a L_a.length q_a), Ud, (.slice none 0 0), (.slice (some ⟨b3, 0, none⟩) L_a.length L_a.length), (Iv (k : Int)), (.slice p_a L_a.length q_a), (Iv (L_a.length : Int)), (.slice (some ⟨b3, 0, none⟩) L_a.length L_a.length), (Iv (k : Int)), (.slice p_a L_a.length q_a), (Iv (L_a.length : Int)), (Bo (icmp .lss (k : Int) (L_a.length : Int))), (u15 12), (u15 13), (.slice (some ⟨b3, 0, none⟩) L_a.length L_a.length), (Iv (k : Int)), (.slice p_a L_a.length q_a), (Iv (k : Int)), (Pt b24 o25), (.agg #[(Iv el1.kind), (Iv el1.a), (Iv el1.b), (.slice p30 el1.nums.length q31)]), (u15 20), (u15 21), Ud]) rfl rfl (does_loadAgg (cs := [(Iv el1.kind), (Iv el1.a), (Iv el1.b), (.slice p30 el1.nums.length q31)]) (ev rfl) Try.isAgg99 Try.sizeOf99 hc27 rfl) rfl ?_
      refine seqd rfl rfl (does_call (args := #[(.agg #[(Iv el1.kind), (Iv el1.a), (Iv el1.b), (.slice p30 el1.nums.length q31)])]) cal54 (evs rfl) (c_laws_toNode [(Iv el1.kind), (Iv el1.a), (Iv el1.b), (.slice p30 el1.nums.length q31)] el1 _ ⟨(.slice p30 el1.nums.length q31), rfl, hs32⟩ (by exact hall _ (List.mem_of_getElem? (by assumption))))) ?_; rintro _ w34 ⟨E33, ⟨cs36, rfl, hh35⟩⟩
      have X37 := Ext.gr X19 E33
      obtain ⟨y39, rfl, h40⟩ := hh35.get
      have h40l := Sl.len h40; obtain ⟨p41, q42, rfl⟩ := Sl.shape h40
      have hh43 : Hang w16.heap.size w34 (fun u => Sl RF 1 u (.slice p41 el1.nums.length q42) el1.nums) := fun u hu => by obtain ⟨_, hq, _⟩ := hh35 u hu; cases hq; assumption
      show wpList _ _ _ _ (fr [(.slice p_a L_a.length q_a), Ud, (.slice none 0 0), (.slice (some ⟨b3, 0, none⟩) L_a.length L_a.length), (Iv (k : Int)), (.slice p_a L_a.length q_a), (Iv (L_a.length : Int)), (.slice (some ⟨b3, 0, none⟩) L_a.length L_a.length), (Iv (k : Int)), (.slice p_a L_a.length q_a), (Iv (L_a.length : Int)), (Bo (icmp .lss (k : Int) (L_a.length : Int))), (u15 12), (u15 13), (.slice (some ⟨b3, 0, none⟩) L_a.length L_a.length), (Iv (k : Int)), (.slice p_a L_a.length q_a), (Iv (k : Int)), (Pt b24 o25), (.agg #[(Iv el1.kind), (Iv el1.a), (Iv el1.b), (.slice p30 el1.nums.length q31)]), (.agg #[(Iv el1.kind), (Iv el1.a), (Iv el1.b), (.slice p41 el1.nums.length q42)]), (u15 21), Ud]) _
      refine q_is (l' := [(.slice p_a L_a.length q_a), Ud, (.slice none 0 0), (.slice (some ⟨b3, 0, none⟩) L_a.length L_a.length), (Iv (k : Int)), (.slice p_a L_a.length q_a), (Iv (L_a.length : Int)), (.slice (some ⟨b3, 0, none⟩) L_a.length L_a.length), (Iv (k : Int)), (.slice p_a L_a.length q_a), (Iv (L_a.length : Int)), (Bo (icmp .lss (k : Int) (L_a.length : Int))), (u15 12), (u15 13), (.slice (some ⟨b3, 0, none⟩) L_a.length L_a.length), (Iv (k : Int)), (.slice p_a L_a.length q_a), (Iv (k : Int)), (Pt b24 o25), (.agg #[(Iv el1.kind), (Iv el1.a), (Iv el1.b), (.slice p30 el1.nums.length q31)]), (.agg #[(Iv el1.kind), (Iv el1.a), (Iv el1.b), (.slice p41 el1.nums.length q42)]), (Pt b3 (k * 4)), Ud]) rfl rfl (does_indexOwn (b := b3) (n := L_a.length) (i := (k : Int)) Try.underlying28 Try.sizeOf102 (ev rfl) (ev rfl) (by omega) (by omega)) rfl ?_
      have hh44 := Hang.le hh43 (Nat.succ_le_of_lt (FillH.lt hF18))
      refine seqn rfl rfl (does_fillH (R := RNodeT) (k := 4) (n := L_a.length) (j := k) (xs := L_a) (u := (.agg #[(Iv el1.kind), (Iv el1.a), (Iv el1.b), (.slice p41 el1.nums.length q42)])) (e := el1) (ev rfl) (ev rfl) Try.sizeOf102 rfl rfl (FillH.ext hF18 RNodeT.mono E33) (by omega) hel1 (fun u hu => ⟨(.slice p41 el1.nums.length q42), rfl, (hh44 u hu)⟩)) ?_; rintro _ w47 ⟨rfl, W45, hF46⟩
      have X48 := Below.wr X37 W45 g11
      refine wpList_nil (hK23 _ _ ?_)
      refine wp_region_lit ?_
      refine q_is (l' := [(.slice p_a L_a.length q_a), Ud, (.slice none 0 0), (.slice (some ⟨b3, 0, none⟩) L_a.length L_a.length), (Iv (k : Int)), (.slice p_a L_a.length q_a), (Iv (L_a.length : Int)), (.slice (some ⟨b3, 0, none⟩) L_a.length L_a.length), (Iv (k : Int)), (.slice p_a L_a.length q_a), (Iv (L_a.length : Int)), (Bo (icmp .lss (k : Int) (L_a.length : Int))), (Iv (k : Int)), (u15 13), (.slice (some ⟨b3, 0, none⟩) L_a.length L_a.length), (Iv (k : Int)), (.slice p_a L_a.length q_a), (Iv (k : Int)), (Pt b24 o25), (.agg #[(Iv el1.kind), (Iv el1.a), (Iv el1.b), (.slice p30 el1.nums.length q31)]), (.agg #[(Iv el1.kind), (Iv el1.a), (Iv el1.b), (.slice p41 el1.nums.length q42)]), (Pt b3 (k * 4)), Ud]) rfl rfl (does_move (u := (Iv (k : Int))) (ev rfl)) rfl ?_
      refine q_is (l' := [(.slice p_a L_a.length q_a), Ud, (.slice none 0 0), (.slice (some ⟨b3, 0, none⟩) L_a.length L_a.length), (Iv (k : Int)), (.slice p_a L_a.length q_a), (Iv (L_a.length : Int)), (.slice (some ⟨b3, 0, none⟩) L_a.length L_a.length), (Iv (k : Int)), (.slice p_a L_a.length q_a), (Iv (L_a.length : Int)), (Bo (icmp .lss (k : Int) (L_a.length : Int))), (Iv (k : Int)), (Iv ((k : Int) + 1)), (.slice (some ⟨b3, 0, none⟩) L_a.length L_a.length), (Iv (k : Int)), (.slice p_a L_a.length q_a), (Iv (k : Int)), (Pt b24 o25), (.agg #[(Iv el1.kind), (Iv el1.a), (Iv el1.b), (.slice p30 el1.nums.length q31)]), (.agg #[(Iv el1.kind), (Iv el1.a), (Iv el1.b), (.slice p41 el1.nums.length q42)]), (Pt b3 (k * 4)), Ud]) rfl rfl (does_iarith (p := (k : Int)) (q := 1) (r := (k : Int) + 1) (ev rfl) (ev rfl) (.inl ⟨rfl, (in_i64 (by omega) (by omega)).symm⟩)) rfl ?_
      refine q_is (l' := [(.slice p_a L_a.length q_a), Ud, (.slice none 0 0), (.slice (some ⟨b3, 0, none⟩) L_a.length L_a.length), (Iv ((k : Int) + 1)), (.slice p_a L_a.length q_a), (Iv (L_a.length : Int)), (.slice (some ⟨b3, 0, none⟩) L_a.length L_a.length), (Iv (k : Int)), (.slice p_a L_a.length q_a), (Iv (L_a.length : Int)), (Bo (icmp .lss (k : Int) (L_a.length : Int))), (Iv (k : Int)), (Iv ((k : Int) + 1)), (.slice (some ⟨b3, 0, none⟩) L_a.length L_a.length), (Iv (k : Int)), (.slice p_a L_a.length q_a), (Iv (k : Int)), (Pt b24 o25), (.agg #[(Iv el1.kind), (Iv el1.a), (Iv el1.b), (.slice p30 el1.nums.length q31)]), (.agg #[(Iv el1.kind), (Iv el1.a), (Iv el1.b), (.slice p41 el1.nums.length q42)]), (Pt b3 (k * 4)), Ud]) rfl rfl (does_assign (u := (Iv ((k : Int) + 1))) (ev rfl)) rfl ?_
      refine wpList_nil ?_
      refine ⟨k + 1, ⟨fun t => (([(.slice p_a L_a.length q_a), Ud, (.slice none 0 0), (.slice (some ⟨b3, 0, none⟩) L_a.length L_a.length), (Iv ((k : Int) + 1)), (.slice p_a L_a.length q_a), (Iv (L_a.length : Int)), (.slice (some ⟨b3, 0, none⟩) L_a.length L_a.length), (Iv (k : Int)), (.slice p_a L_a.length q_a), (Iv (L_a.length : Int)), (Bo (icmp .lss (k : Int) (L_a.length : Int))), (Iv (k : Int)), (Iv ((k : Int) + 1)), (.slice (some ⟨b3, 0, none⟩) L_a.length L_a.length), (Iv (k : Int)), (.slice p_a L_a.length q_a), (Iv (k : Int)), (Pt b24 o25), (.agg #[(Iv el1.kind), (Iv el1.a), (Iv el1.b), (.slice p30 el1.nums.length q31)]), (.agg #[(Iv el1.kind), (Iv el1.a), (Iv el1.b), (.slice p41 el1.nums.length q42)]), (Pt b3 (k * 4)), Ud] : List Value)[t]?).getD undef, ?_, (KpL.more (KpL.ext E17 E33) (KpL.of_wr W45) (allS (.inl (by simp)) all0)), hF46, ?_⟩, ?_⟩
      · first | rfl | (simp only [Nat.cast_add, Nat.cast_one, Int.natCast_add, Int.natCast_one]; rfl)
      · omega
      · omega
    have c22' := c22
    (try simp only [icmp, Bool.and_eq_true, Bool.or_eq_true, Bool.and_eq_false_iff, Bool.or_eq_false_iff, Bool.not_eq_true', Bool.not_eq_false', decide_eq_true_eq, decide_eq_false_iff_not, beq_iff_eq, bne_iff_ne, beq_eq_false_iff_ne, bne_eq_false_iff_eq] at c22')
    refine wp_exit ?_
    refine hK13 _ _ ?_
    refine wp_seq_k fun K49 hK49 => ?_
    refine wp_region_lit ?_
    refine q_is (l' := [(.slice p_a L_a.length q_a), Ud, (.slice none 0 0), (.slice (some ⟨b3, 0, none⟩) L_a.length L_a.length), (Iv (k : Int)), (.slice p_a L_a.length q_a), (Iv (L_a.length : Int)), (.slice (some ⟨b3, 0, none⟩) L_a.length L_a.length), (Iv (k : Int)), (.slice p_a L_a.length q_a), (Iv (L_a.length : Int)), (Bo (icmp .lss (k : Int) (L_a.length : Int))), (u15 12), (u15 13), (u15 14), (u15 15), (u15 16), (u15 17), (u15 18), (u15 19), (u15 20), (u15 21), (.slice (some ⟨b3, 0, none⟩) L_a.length L_a.length)]) rfl rfl (does_move (u := (.slice (some ⟨b3, 0, none⟩) L_a.length L_a.length)) (ev rfl)) rfl ?_
    refine q_is (l' := [(.slice p_a L_a.length q_a), Ud, (.slice (some ⟨b3, 0, none⟩) L_a.length L_a.length), (.slice (some ⟨b3, 0, none⟩) L_a.length L_a.length), (Iv (k : Int)), (.slice p_a L_a.length q_a), (Iv (L_a.length : Int)), (.slice (some ⟨b3, 0, none⟩) L_a.length L_a.length), (Iv (k : Int)), (.slice p_a L_a.length q_a), (Iv (L_a.length : Int)), (Bo (icmp .lss (k : Int) (L_a.length : Int))), (u15 12), (u15 13), (u15 14), (u15 15), (u15 16), (u15 17), (u15 18), (u15 19), (u15 20), (u15 21), (.slice (some ⟨b3, 0, none⟩) L_a.length L_a.length)]) rfl rfl (does_assign (u := (.slice (some ⟨b3, 0, none⟩) L_a.length L_a.length)) (ev rfl)) rfl ?_
    refine wpList_nil (hK49 _ _ ?_)
    refine wp_ret ?_
    refine ret_val (v := (.slice (some ⟨b3, 0, none⟩) L_a.length L_a.length)) (res_T rfl (slot rfl)) X19 ?_
    exact ⟨(.slice (some ⟨b3, 0, none⟩) L_a.length L_a.length), rfl, (FillH.hang hF18 g11 (by omega) rfl (by omega) (by decide))⟩

/- laws.toShape -/
theorem c_laws_toShape (a : List Value) (A_a : ShapeT) (w : World) (hv_a : RShapeT w A_a a) (hst : ndTot A_a.nodes ≤ 1048576) : Gives Try.prog 8 #[(.agg a.toArray)] w (fun v w' => ∃ cs_1 : List Value, v = (.agg cs_1.toArray) ∧ Hang w.heap.size w' (fun u => RShapeT u A_a cs_1)) := by
  obtain ⟨y1, rfl, h2⟩ := hv_a
  have hs5 := h2; have hs5l := Sl.len h2; obtain ⟨p3, q4, rfl⟩ := Sl.shape h2
  have hse := ndTot_each hst
  refine enter [(.agg #[(.slice p3 A_a.nodes.length q4)]), Ud, Ud, Ud, Ud, Ud, Ud, Ud, Ud] Try.func8 rfl Try.ntmps8 rfl ?_
  refine wp_seq_k fun K6 hK6 => ?_
  refine wp_region_lit ?_
  refine seqd rfl rfl (does_box (u := (.agg #[(.slice p3 A_a.nodes.length q4)])) (ev rfl)) ?_; rintro _ w11 ⟨b7, rfl, hb8, hB9, E10⟩
  have g12 : w.heap.size ≤ b7 := Nat.le_trans (Below.size (Ext.refl w)) hb8
  change Blk _ _ [(.slice p3 A_a.nodes.length q4)] at hB9
  have X13 := Ext.gr (Ext.refl w) E10
  show wpList _ _ _ _ (fr [(.agg #[(.slice p3 A_a.nodes.length q4)]), (Pt b7 0), Ud, Ud, Ud, Ud, Ud, Ud, Ud]) _
  refine seqd rfl rfl (does_alloc z30) ?_; rintro _ w18 ⟨b14, rfl, hb15, hB16, E17⟩
  have n19 : b7 < b14 := Nat.lt_of_lt_of_le (Blk.lt hB9) hb15
  have g20 : w.heap.size ≤ b14 := Nat.le_trans (Below.size X13) hb15
  change Blk _ _ [(.slice none 0 0)] at hB16
  have X21 := Ext.gr X13 E17
  show wpList _ _ _ _ (fr [(.agg #[(.slice p3 A_a.nodes.length q4)]), (Pt b7 0), (Pt b14 0), Ud, Ud, Ud, Ud, Ud, Ud]) _
  refine wpList_nil (hK6 _ _ ?_)
  refine wp_seq_k fun K22 hK22 => ?_
  refine wp_region_lit ?_
  refine seqd rfl rfl (does_alloc z30) ?_; rintro _ w27 ⟨b23, rfl, hb24, hB25, E26⟩
  have n28 : b7 < b23 := Nat.lt_of_lt_of_le (Blk.lt (hB9.ext E17)) hb24
  have n29 : b14 < b23 := Nat.lt_of_lt_of_le (Blk.lt hB16) hb24
  have g30 : w.heap.size ≤ b23 := Nat.le_trans (Below.size X21) hb24
  change Blk _ _ [(.slice none 0 0)] at hB25
  have X31 := Ext.gr X21 E26
  show wpList _ _ _ _ (fr [(.agg #[(.slice p3 A_a.nodes.length q4)]), (Pt b7 0), (Pt b14 0), (Pt b23 0), Ud, Ud, Ud, Ud, Ud]) _
  refine wpList_nil (hK22 _ _ ?_)
  refine wp_seq_k fun K32 hK32 => ?_
  refine wp_region_lit ?_
  refine q_is (l' := [(.agg #[(.slice p3 A_a.nodes.length q4)]), (Pt b7 0), (Pt b14 0), (Pt b23 0), (Pt b7 0), Ud, Ud, Ud, Ud]) rfl rfl (does_fieldAddr (ev rfl) fa24_0) rfl ?_
  refine q_is (l' := [(.agg #[(.slice p3 A_a.nodes.length q4)]), (Pt b7 0), (Pt b14 0), (Pt b23 0), (Pt b7 0), (.slice p3 A_a.nodes.length q4), Ud, Ud, Ud]) rfl rfl (does_load (u := (.slice p3 A_a.nodes.length q4)) (ev rfl) Try.isAgg22 (Cells.at (Blk.cells ((hB9.ext E17).ext E26)) 0 rfl)) rfl ?_
  refine seqd rfl rfl (does_call (args := #[(.slice p3 A_a.nodes.length q4)]) cal25 (evs rfl) (c_laws_toNodeS (.slice p3 A_a.nodes.length q4) A_a.nodes _ (Sl.ext hs5 RNodeT.mono X31) (by exact hse.1) (by exact hse.2))) ?_; rintro _ w34 ⟨E33, ⟨y36, rfl, hh35⟩⟩
  have X37 := Ext.gr X31 E33
  have n38 : b7 < w27.heap.size := Blk.lt ((hB9.ext E17).ext E26)
  have n39 : b14 < w27.heap.size := Blk.lt (hB16.ext E26)
  have n40 : b23 < w27.heap.size := Blk.lt hB25
  obtain ⟨p41, q42, rfl⟩ := Sl.shape hh35.get
  show wpList _ _ _ _ (fr [(.agg #[(.slice p3 A_a.nodes.length q4)]), (Pt b7 0), (Pt b14 0), (Pt b23 0), (Pt b7 0), (.slice p3 A_a.nodes.length q4), (.slice p41 A_a.nodes.length q42), Ud, Ud]) _
  refine q_is (l' := [(.agg #[(.slice p3 A_a.nodes.length q4)]), (Pt b7 0), (Pt b14 0), (Pt b23 0), (Pt b7 0), (.slice p3 A_a.nodes.length q4), (.slice p41 A_a.nodes.length q42), (Pt b23 0), Ud]) rfl rfl (does_fieldAddr (ev rfl) fa30_0) rfl ?_
  refine seqn rfl rfl (does_store (n := 1) (cs := [(.slice none 0 0)]) (u := (.slice p41 A_a.nodes.length q42)) (ev rfl) (ev rfl) Try.sizeOf28 rfl (hB25.ext E33) (Nat.le_of_ble_eq_true rfl) rfl) ?_; rintro _ w45 ⟨rfl, W43, hB44⟩
  change Blk _ _ [(.slice p41 A_a.nodes.length q42)] at hB44
  have X46 := Below.wr X37 W43 g30
  refine wpList_nil (hK32 _ _ ?_)
  refine wp_seq_k fun K47 hK47 => ?_
  refine wp_region_lit ?_
  refine q_is (l' := [(.agg #[(.slice p3 A_a.nodes.length q4)]), (Pt b7 0), (Pt b14 0), (Pt b23 0), (Pt b7 0), (.slice p3 A_a.nodes.length q4), (.slice p41 A_a.nodes.length q42), (Pt b23 0), (.agg #[(.slice p41 A_a.nodes.length q42)])]) rfl rfl (does_loadAgg (cs := [(.slice p41 A_a.nodes.length q42)]) (ev rfl) Try.isAgg30 Try.sizeOf30 (Blk.cells hB44) rfl) rfl ?_
  refine seqn rfl rfl (does_store (n := 1) (cs := [(.slice none 0 0)]) (u := (.agg #[(.slice p41 A_a.nodes.length q42)])) (ev rfl) (ev rfl) Try.sizeOf30 rfl (((hB16.ext E26).ext E33).wr W43 (Nat.ne_of_lt n29)) (Nat.le_of_ble_eq_true rfl) rfl) ?_; rintro _ w50 ⟨rfl, W48, hB49⟩
  change Blk _ _ [(.slice p41 A_a.nodes.length q42)] at hB49
  have X51 := Below.wr X46 W48 g20
  refine wpList_nil (hK47 _ _ ?_)
  refine wp_ret ?_
  refine ret_val (v := (.agg #[(.slice p41 A_a.nodes.length q42)])) (res_C rfl (slot rfl) (run_loadAgg (cs := [(.slice p41 A_a.nodes.length q42)]) Try.isAgg30 Try.sizeOf30 (Blk.cells hB49) rfl)) X51 ?_
  exact ⟨[(.slice p41 A_a.nodes.length q42)], rfl, fun u hu => ⟨(.slice p41 A_a.nodes.length q42), rfl, ((Hang.to hh35 (((Same.refl _ _).wr W43 (.inl n40)).wr W48 (.inl n39))).le (Below.size (Ext.gr (Ext.gr (Ext.gr (Ext.refl _) E10) E17) E26))) u hu⟩⟩

/- laws.toVector -/
theorem c_laws_toVector (a : List Value) (A_a : V3) (w : World) (hv_a : RV3 w A_a a) : Gives Try.prog 41 #[(.agg a.toArray)] w (fun v w' => ∃ cs_1 : List Value, v = (.agg cs_1.toArray) ∧ RV3 w A_a cs_1) := by
  obtain ⟨r1, r3, r5, rfl, h2, h4, h6⟩ := hv_a
  refine enter [(.agg #[(Fl r1), (Fl r3), (Fl r5)]), Ud, Ud, Ud, Ud, Ud, Ud, Ud, Ud, Ud, Ud, Ud, Ud, Ud] Try.func41 rfl Try.ntmps41 rfl ?_
  refine wp_seq_k fun K7 hK7 => ?_
  refine wp_region_lit ?_
  refine seqd rfl rfl (does_box (u := (.agg #[(Fl r1), (Fl r3), (Fl r5)])) (ev rfl)) ?_; rintro _ w12 ⟨b8, rfl, hb9, hB10, E11⟩
  have g13 : w.heap.size ≤ b8 := Nat.le_trans (Below.size (Ext.refl w)) hb9
  change Blk _ _ [(Fl r1), (Fl r3), (Fl r5)] at hB10
  have X14 := Ext.gr (Ext.refl w) E11
  show wpList _ _ _ _ (fr [(.agg #[(Fl r1), (Fl r3), (Fl r5)]), (Pt b8 0), Ud, Ud, Ud, Ud, Ud, Ud, Ud, Ud, Ud, Ud, Ud, Ud]) _
  refine seqd rfl rfl (does_alloc z40) ?_; rintro _ w19 ⟨b15, rfl, hb16, hB17, E18⟩
  have n20 : b8 < b15 := Nat.lt_of_lt_of_le (Blk.lt hB10) hb16
  have g21 : w.heap.size ≤ b15 := Nat.le_trans (Below.size X14) hb16
  change Blk _ _ [(Fl 0), (Fl 0), (Fl 0)] at hB17
  have X22 := Ext.gr X14 E18
  show wpList _ _ _ _ (fr [(.agg #[(Fl r1), (Fl r3), (Fl r5)]), (Pt b8 0), (Pt b15 0), Ud, Ud, Ud, Ud, Ud, Ud, Ud, Ud, Ud, Ud, Ud]) _
  refine wpList_nil (hK7 _ _ ?_)
  refine wp_seq_k fun K23 hK23 => ?_
  refine wp_region_lit ?_
  refine seqd rfl rfl (does_alloc z40) ?_; rintro _ w28 ⟨b24, rfl, hb25, hB26, E27⟩
  have n29 : b8 < b24 := Nat.lt_of_lt_of_le (Blk.lt (hB10.ext E18)) hb25
  have n30 : b15 < b24 := Nat.lt_of_lt_of_le (Blk.lt hB17) hb25
  have g31 : w.heap.size ≤ b24 := Nat.le_trans (Below.size X22) hb25
  change Blk _ _ [(Fl 0), (Fl 0), (Fl 0)] at hB26
  have X32 := Ext.gr X22 E27
  show wpList _ _ _ _ (fr [(.agg #[(Fl r1), (Fl r3), (Fl r5)]), (Pt b8 0), (Pt b15 0), (Pt b24 0), Ud, Ud, Ud, Ud, Ud, Ud, Ud, Ud, Ud, Ud]) _
  refine wpList_nil (hK23 _ _ ?_)
  refine wp_seq_k fun K33 hK33 => ?_
  refine wp_region_lit ?_
  refine q_is (l' := [(.agg #[(Fl r1), (Fl r3), (Fl r5)]), (Pt b8 0), (Pt b15 0), (Pt b24 0), (Pt b8 0), Ud, Ud, Ud, Ud, Ud, Ud, Ud, Ud, Ud]) rfl rfl (does_fieldAddr (ev rfl) fa50_0) rfl ?_
  refine q_is (l' := [(.agg #[(Fl r1), (Fl r3), (Fl r5)]), (Pt b8 0), (Pt b15 0), (Pt b24 0), (Pt b8 0), (Fl r1), Ud, Ud, Ud, Ud, Ud, Ud, Ud, Ud]) rfl rfl (does_load (u := (Fl r1)) (ev rfl) Try.isAgg38 (Cells.at (Blk.cells ((hB10.ext E18).ext E27)) 0 rfl)) rfl ?_
  refine q_is (l' := [(.agg #[(Fl r1), (Fl r3), (Fl r5)]), (Pt b8 0), (Pt b15 0), (Pt b24 0), (Pt b8 0), (Fl r1), (Pt b24 0), Ud, Ud, Ud, Ud, Ud, Ud, Ud]) rfl rfl (does_fieldAddr (ev rfl) fa40_0) rfl ?_
  refine seqn rfl rfl (does_store (n := 1) (cs := [(Fl 0), (Fl 0), (Fl 0)]) (u := (Fl r1)) (ev rfl) (ev rfl) Try.sizeOf38 rfl hB26 (Nat.le_of_ble_eq_true rfl) rfl) ?_; rintro _ w36 ⟨rfl, W34, hB35⟩
  change Blk _ _ [(Fl r1), (Fl 0), (Fl 0)] at hB35
  have X37 := Below.wr X32 W34 g31
  refine wpList_nil (hK33 _ _ ?_)
  refine wp_seq_k fun K38 hK38 => ?_
  refine wp_region_lit ?_
  refine q_is (l' := [(.agg #[(Fl r1), (Fl r3), (Fl r5)]), (Pt b8 0), (Pt b15 0), (Pt b24 0), (Pt b8 0), (Fl r1), (Pt b24 0), (Pt b8 1), Ud, Ud, Ud, Ud, Ud, Ud]) rfl rfl (does_fieldAddr (ev rfl) fa50_1) rfl ?_
  refine q_is (l' := [(.agg #[(Fl r1), (Fl r3), (Fl r5)]), (Pt b8 0), (Pt b15 0), (Pt b24 0), (Pt b8 0), (Fl r1), (Pt b24 0), (Pt b8 1), (Fl r3), Ud, Ud, Ud, Ud, Ud]) rfl rfl (does_load (u := (Fl r3)) (ev rfl) Try.isAgg38 (Cells.at (Blk.cells (((hB10.ext E18).ext E27).wr W34 (Nat.ne_of_lt n29))) 1 rfl)) rfl ?_
  refine q_is (l' := [(.agg #[(Fl r1), (Fl r3), (Fl r5)]), (Pt b8 0), (Pt b15 0), (Pt b24 0), (Pt b8 0), (Fl r1), (Pt b24 0), (Pt b8 1), (Fl r3), (Pt b24 1), Ud, Ud, Ud, Ud]) rfl rfl (does_fieldAddr (ev rfl) fa40_1) rfl ?_
  refine seqn rfl rfl (does_store (n := 1) (cs := [(Fl r1), (Fl 0), (Fl 0)]) (u := (Fl r3)) (ev rfl) (ev rfl) Try.sizeOf38 rfl hB35 (Nat.le_of_ble_eq_true rfl) rfl) ?_; rintro _ w41 ⟨rfl, W39, hB40⟩
  change Blk _ _ [(Fl r1), (Fl r3), (Fl 0)] at hB40
  have X42 := Below.wr X37 W39 g31
  refine wpList_nil (hK38 _ _ ?_)
  refine wp_seq_k fun K43 hK43 => ?_
  refine wp_region_lit ?_
  refine q_is (l' := [(.agg #[(Fl r1), (Fl r3), (Fl r5)]), (Pt b8 0), (Pt b15 0), (Pt b24 0), (Pt b8 0), (Fl r1), (Pt b24 0), (Pt b8 1), (Fl r3), (Pt b24 1), (Pt b8 2), Ud, Ud, Ud]) rfl rfl (does_fieldAddr (ev rfl) fa50_2) rfl ?_
  refine q_is (l' := [(.agg #[(Fl r1), (Fl r3), (Fl r5)]), (Pt b8 0), (Pt b15 0), (Pt b24 0), (Pt b8 0), (Fl r1), (Pt b24 0), (Pt b8 1), (Fl r3), (Pt b24 1), (Pt b8 2), (Fl r5), Ud, Ud]) rfl rfl (does_load (u := (Fl r5)) (ev rfl) Try.isAgg38 (Cells.at (Blk.cells ((((hB10.ext E18).ext E27).wr W34 (Nat.ne_of_lt n29)).wr W39 (Nat.ne_of_lt n29))) 2 rfl)) rfl ?_
  refine q_is (l' := [(.agg #[(Fl r1), (Fl r3), (Fl r5)]), (Pt b8 0), (Pt b15 0), (Pt b24 0), (Pt b8 0), (Fl r1), (Pt b24 0), (Pt b8 1), (Fl r3), (Pt b24 1), (Pt b8 2), (Fl r5), (Pt b24 2), Ud]) rfl rfl (does_fieldAddr (ev rfl) fa40_2) rfl ?_
  refine seqn rfl rfl (does_store (n := 1) (cs := [(Fl r1), (Fl r3), (Fl 0)]) (u := (Fl r5)) (ev rfl) (ev rfl) Try.sizeOf38 rfl hB40 (Nat.le_of_ble_eq_true rfl) rfl) ?_; rintro _ w46 ⟨rfl, W44, hB45⟩
  change Blk _ _ [(Fl r1), (Fl r3), (Fl r5)] at hB45
  have X47 := Below.wr X42 W44 g31
  refine wpList_nil (hK43 _ _ ?_)
  refine wp_seq_k fun K48 hK48 => ?_
  refine wp_region_lit ?_
  refine q_is (l' := [(.agg #[(Fl r1), (Fl r3), (Fl r5)]), (Pt b8 0), (Pt b15 0), (Pt b24 0), (Pt b8 0), (Fl r1), (Pt b24 0), (Pt b8 1), (Fl r3), (Pt b24 1), (Pt b8 2), (Fl r5), (Pt b24 2), (.agg #[(Fl r1), (Fl r3), (Fl r5)])]) rfl rfl (does_loadAgg (cs := [(Fl r1), (Fl r3), (Fl r5)]) (ev rfl) Try.isAgg40 Try.sizeOf40 (Blk.cells hB45) rfl) rfl ?_
  refine seqn rfl rfl (does_store (n := 3) (cs := [(Fl 0), (Fl 0), (Fl 0)]) (u := (.agg #[(Fl r1), (Fl r3), (Fl r5)])) (ev rfl) (ev rfl) Try.sizeOf40 rfl ((((hB17.ext E27).wr W34 (Nat.ne_of_lt n30)).wr W39 (Nat.ne_of_lt n30)).wr W44 (Nat.ne_of_lt n30)) (Nat.le_of_ble_eq_true rfl) rfl) ?_; rintro _ w51 ⟨rfl, W49, hB50⟩
  change Blk _ _ [(Fl r1), (Fl r3), (Fl r5)] at hB50
  have X52 := Below.wr X47 W49 g21
  refine wpList_nil (hK48 _ _ ?_)
  refine wp_ret ?_
  refine ret_val (v := (.agg #[(Fl r1), (Fl r3), (Fl r5)])) (res_C rfl (slot rfl) (run_loadAgg (cs := [(Fl r1), (Fl r3), (Fl r5)]) Try.isAgg40 Try.sizeOf40 (Blk.cells hB50) rfl)) X52 ?_
  exact ⟨[(Fl r1), (Fl r3), (Fl r5)], rfl, ⟨r1, r3, r5, rfl, h2, h4, h6⟩⟩

/- laws.toCamera -/
theorem c_laws_toCamera (c : List Value) (A_c : CamT) (w : World) (hv_c : RCamT w A_c c) : Gives Try.prog 40 #[(.agg c.toArray)] w (fun v w' => ∃ cs_1 : List Value, v = (.agg cs_1.toArray) ∧ RCamT w A_c cs_1) := by
  obtain ⟨r1, r3, r5, r7, r9, r11, r13, rfl, h2, h4, h6, h8, h10, h12, h14⟩ := hv_c
  refine enter [(.agg #[(Fl r1), (Fl r3), (Fl r5), (Fl r7), (Fl r9), (Fl r11), (Fl r13), (Iv A_c.width), (Iv A_c.height)]), Ud, Ud, Ud, Ud, Ud, Ud, Ud, Ud, Ud, Ud, Ud, Ud, Ud, Ud, Ud, Ud, Ud, Ud, Ud, Ud, Ud] Try.func40 rfl Try.ntmps40 rfl ?_
  refine wp_seq_k fun K15 hK15 => ?_
  refine wp_region_lit ?_
  refine seqd rfl rfl (does_box (u := (.agg #[(Fl r1), (Fl r3), (Fl r5), (Fl r7), (Fl r9), (Fl r11), (Fl r13), (Iv A_c.width), (Iv A_c.height)])) (ev rfl)) ?_; rintro _ w20 ⟨b16, rfl, hb17, hB18, E19⟩
  have g21 : w.heap.size ≤ b16 := Nat.le_trans (Below.size (Ext.refl w)) hb17
  change Blk _ _ [(Fl r1), (Fl r3), (Fl r5), (Fl r7), (Fl r9), (Fl r11), (Fl r13), (Iv A_c.width), (Iv A_c.height)] at hB18
  have X22 := Ext.gr (Ext.refl w) E19
  show wpList _ _ _ _ (fr [(.agg #[(Fl r1), (Fl r3), (Fl r5), (Fl r7), (Fl r9), (Fl r11), (Fl r13), (Iv A_c.width), (Iv A_c.height)]), (Pt b16 0), Ud, Ud, Ud, Ud, Ud, Ud, Ud, Ud, Ud, Ud, Ud, Ud, Ud, Ud, Ud, Ud, Ud, Ud, Ud, Ud]) _
  refine seqd rfl rfl (does_alloc z60) ?_; rintro _ w27 ⟨b23, rfl, hb24, hB25, E26⟩
  have n28 : b16 < b23 := Nat.lt_of_lt_of_le (Blk.lt hB18) hb24
  have g29 : w.heap.size ≤ b23 := Nat.le_trans (Below.size X22) hb24
  change Blk _ _ [(Fl 0), (Fl 0), (Fl 0), (Fl 0), (Fl 0), (Fl 0), (Fl 0), (Iv 0), (Iv 0)] at hB25
  have X30 := Ext.gr X22 E26
  show wpList _ _ _ _ (fr [(.agg #[(Fl r1), (Fl r3), (Fl r5), (Fl r7), (Fl r9), (Fl r11), (Fl r13), (Iv A_c.width), (Iv A_c.height)]), (Pt b16 0), (Pt b23 0), Ud, Ud, Ud, Ud, Ud, Ud, Ud, Ud, Ud, Ud, Ud, Ud, Ud, Ud, Ud, Ud, Ud, Ud, Ud]) _
  refine wpList_nil (hK15 _ _ ?_)
  refine wp_seq_k fun K31 hK31 => ?_
  refine wp_region_lit ?_
  refine seqd rfl rfl (does_alloc z60) ?_; rintro _ w36 ⟨b32, rfl, hb33, hB34, E35⟩
  have n37 : b16 < b32 := Nat.lt_of_lt_of_le (Blk.lt (hB18.ext E26)) hb33
  have n38 : b23 < b32 := Nat.lt_of_lt_of_le (Blk.lt hB25) hb33
  have g39 : w.heap.size ≤ b32 := Nat.le_trans (Below.size X30) hb33
  change Blk _ _ [(Fl 0), (Fl 0), (Fl 0), (Fl 0), (Fl 0), (Fl 0), (Fl 0), (Iv 0), (Iv 0)] at hB34
  have X40 := Ext.gr X30 E35
  show wpList _ _ _ _ (fr [(.agg #[(Fl r1), (Fl r3), (Fl r5), (Fl r7), (Fl r9), (Fl r11), (Fl r13), (Iv A_c.width), (Iv A_c.height)]), (Pt b16 0), (Pt b23 0), (Pt b32 0), Ud, Ud, Ud, Ud, Ud, Ud, Ud, Ud, Ud, Ud, Ud, Ud, Ud, Ud, Ud, Ud, Ud, Ud]) _
  refine wpList_nil (hK31 _ _ ?_)
  refine wp_seq_k fun K41 hK41 => ?_
  refine wp_region_lit ?_
  refine q_is (l' := [(.agg #[(Fl r1), (Fl r3), (Fl r5), (Fl r7), (Fl r9), (Fl r11), (Fl r13), (Iv A_c.width), (Iv A_c.height)]), (Pt b16 0), (Pt b23 0), (Pt b32 0), (Pt b16 0), Ud, Ud, Ud, Ud, Ud, Ud, Ud, Ud, Ud, Ud, Ud, Ud, Ud, Ud, Ud, Ud, Ud]) rfl rfl (does_fieldAddr (ev rfl) fa52_0) rfl ?_
  refine q_is (l' := [(.agg #[(Fl r1), (Fl r3), (Fl r5), (Fl r7), (Fl r9), (Fl r11), (Fl r13), (Iv A_c.width), (Iv A_c.height)]), (Pt b16 0), (Pt b23 0), (Pt b32 0), (Pt b16 0), (.agg #[(Fl r1), (Fl r3), (Fl r5)]), Ud, Ud, Ud, Ud, Ud, Ud, Ud, Ud, Ud, Ud, Ud, Ud, Ud, Ud, Ud, Ud]) rfl rfl (does_loadAgg (cs := [(Fl r1), (Fl r3), (Fl r5)]) (ev rfl) Try.isAgg50 Try.sizeOf50 (Cells.sub (Blk.cells ((hB18.ext E26).ext E35)) 0 3) rfl) rfl ?_
  refine seqd rfl rfl (does_call (args := #[(.agg #[(Fl r1), (Fl r3), (Fl r5)])]) cal41 (evs rfl) (c_laws_toVector [(Fl r1), (Fl r3), (Fl r5)] A_c.frm _ ⟨r1, r3, r5, rfl, h2, h4, h6⟩)) ?_; rintro _ w43 ⟨E42, ⟨_, rfl, ⟨r44, r46, r48, rfl, h45, h47, h49⟩⟩⟩
  have X50 := Ext.gr X40 E42
  show wpList _ _ _ _ (fr [(.agg #[(Fl r1), (Fl r3), (Fl r5), (Fl r7), (Fl r9), (Fl r11), (Fl r13), (Iv A_c.width), (Iv A_c.height)]), (Pt b16 0), (Pt b23 0), (Pt b32 0), (Pt b16 0), (.agg #[(Fl r1), (Fl r3), (Fl r5)]), (.agg #[(Fl r44), (Fl r46), (Fl r48)]), Ud, Ud, Ud, Ud, Ud, Ud, Ud, Ud, Ud, Ud, Ud, Ud, Ud, Ud, Ud]) _
  refine q_is (l' := [(.agg #[(Fl r1), (Fl r3), (Fl r5), (Fl r7), (Fl r9), (Fl r11), (Fl r13), (Iv A_c.width), (Iv A_c.height)]), (Pt b16 0), (Pt b23 0), (Pt b32 0), (Pt b16 0), (.agg #[(Fl r1), (Fl r3), (Fl r5)]), (.agg #[(Fl r44), (Fl r46), (Fl r48)]), (Pt b32 0), Ud, Ud, Ud, Ud, Ud, Ud, Ud, Ud, Ud, Ud, Ud, Ud, Ud, Ud]) rfl rfl (does_fieldAddr (ev rfl) fa60_0) rfl ?_
  refine seqn rfl rfl (does_store (n := 3) (cs := [(Fl 0), (Fl 0), (Fl 0), (Fl 0), (Fl 0), (Fl 0), (Fl 0), (Iv 0), (Iv 0)]) (u := (.agg #[(Fl r44), (Fl r46), (Fl r48)])) (ev rfl) (ev rfl) Try.sizeOf40 rfl (hB34.ext E42) (Nat.le_of_ble_eq_true rfl) rfl) ?_; rintro _ w53 ⟨rfl, W51, hB52⟩
  change Blk _ _ [(Fl r44), (Fl r46), (Fl r48), (Fl 0), (Fl 0), (Fl 0), (Fl 0), (Iv 0), (Iv 0)] at hB52
  have X54 := Below.wr X50 W51 g39
  refine wpList_nil (hK41 _ _ ?_)
  refine wp_seq_k fun K55 hK55 => ?_
  refine wp_region_lit ?_
  refine q_is (l' := [(.agg #[(Fl r1), (Fl r3), (Fl r5), (Fl r7), (Fl r9), (Fl r11), (Fl r13), (Iv A_c.width), (Iv A_c.height)]), (Pt b16 0), (Pt b23 0), (Pt b32 0), (Pt b16 0), (.agg #[(Fl r1), (Fl r3), (Fl r5)]), (.agg #[(Fl r44), (Fl r46), (Fl r48)]), (Pt b32 0), (Pt b16 3), Ud, Ud, Ud, Ud, Ud, Ud, Ud, Ud, Ud, Ud, Ud, Ud, Ud]) rfl rfl (does_fieldAddr (ev rfl) fa52_1) rfl ?_
  refine q_is (l' := [(.agg #[(Fl r1), (Fl r3), (Fl r5), (Fl r7), (Fl r9), (Fl r11), (Fl r13), (Iv A_c.width), (Iv A_c.height)]), (Pt b16 0), (Pt b23 0), (Pt b32 0), (Pt b16 0), (.agg #[(Fl r1), (Fl r3), (Fl r5)]), (.agg #[(Fl r44), (Fl r46), (Fl r48)]), (Pt b32 0), (Pt b16 3), (.agg #[(Fl r7), (Fl r9), (Fl r11)]), Ud, Ud, Ud, Ud, Ud, Ud, Ud, Ud, Ud, Ud, Ud, Ud]) rfl rfl (does_loadAgg (cs := [(Fl r7), (Fl r9), (Fl r11)]) (ev rfl) Try.isAgg50 Try.sizeOf50 (Cells.sub (Blk.cells ((((hB18.ext E26).ext E35).ext E42).wr W51 (Nat.ne_of_lt n37))) 3 3) rfl) rfl ?_
  refine seqd rfl rfl (does_call (args := #[(.agg #[(Fl r7), (Fl r9), (Fl r11)])]) cal41 (evs rfl) (c_laws_toVector [(Fl r7), (Fl r9), (Fl r11)] A_c.to _ ⟨r7, r9, r11, rfl, h8, h10, h12⟩)) ?_; rintro _ w57 ⟨E56, ⟨_, rfl, ⟨r58, r60, r62, rfl, h59, h61, h63⟩⟩⟩
  have X64 := Ext.gr X54 E56
  show wpList _ _ _ _ (fr [(.agg #[(Fl r1), (Fl r3), (Fl r5), (Fl r7), (Fl r9), (Fl r11), (Fl r13), (Iv A_c.width), (Iv A_c.height)]), (Pt b16 0), (Pt b23 0), (Pt b32 0), (Pt b16 0), (.agg #[(Fl r1), (Fl r3), (Fl r5)]), (.agg #[(Fl r44), (Fl r46), (Fl r48)]), (Pt b32 0), (Pt b16 3), (.agg #[(Fl r7), (Fl r9), (Fl r11)]), (.agg #[(Fl r58), (Fl r60), (Fl r62)]), Ud, Ud, Ud, Ud, Ud, Ud, Ud, Ud, Ud, Ud, Ud]) _
  refine q_is (l' := [(.agg #[(Fl r1), (Fl r3), (Fl r5), (Fl r7), (Fl r9), (Fl r11), (Fl r13), (Iv A_c.width), (Iv A_c.height)]), (Pt b16 0), (Pt b23 0), (Pt b32 0), (Pt b16 0), (.agg #[(Fl r1), (Fl r3), (Fl r5)]), (.agg #[(Fl r44), (Fl r46), (Fl r48)]), (Pt b32 0), (Pt b16 3), (.agg #[(Fl r7), (Fl r9), (Fl r11)]), (.agg #[(Fl r58), (Fl r60), (Fl r62)]), (Pt b32 3), Ud, Ud, Ud, Ud, Ud, Ud, Ud, Ud, Ud, Ud]) rfl rfl (does_fieldAddr (ev rfl) fa60_1) rfl ?_
  refine seqn rfl rfl (does_store (n := 3) (cs := [(Fl r44), (Fl r46), (Fl r48), (Fl 0), (Fl 0), (Fl 0), (Fl 0), (Iv 0), (Iv 0)]) (u := (.agg #[(Fl r58), (Fl r60), (Fl r62)])) (ev rfl) (ev rfl) Try.sizeOf40 rfl (hB52.ext E56) (Nat.le_of_ble_eq_true rfl) rfl) ?_; rintro _ w67 ⟨rfl, W65, hB66⟩
  change Blk _ _ [(Fl r44), (Fl r46), (Fl r48), (Fl r58), (Fl r60), (Fl r62), (Fl 0), (Iv 0), (Iv 0)] at hB66
  have X68 := Below.wr X64 W65 g39
  refine wpList_nil (hK55 _ _ ?_)
  refine wp_seq_k fun K69 hK69 => ?_
  refine wp_region_lit ?_
  refine q_is (l' := [(.agg #[(Fl r1), (Fl r3), (Fl r5), (Fl r7), (Fl r9), (Fl r11), (Fl r13), (Iv A_c.width), (Iv A_c.height)]), (Pt b16 0), (Pt b23 0), (Pt b32 0), (Pt b16 0), (.agg #[(Fl r1), (Fl r3), (Fl r5)]), (.agg #[(Fl r44), (Fl r46), (Fl r48)]), (Pt b32 0), (Pt b16 3), (.agg #[(Fl r7), (Fl r9), (Fl r11)]), (.agg #[(Fl r58), (Fl r60), (Fl r62)]), (Pt b32 3), (Pt b16 6), Ud, Ud, Ud, Ud, Ud, Ud, Ud, Ud, Ud]) rfl rfl (does_fieldAddr (ev rfl) fa52_2) rfl ?_
  refine q_is (l' := [(.agg #[(Fl r1), (Fl r3), (Fl r5), (Fl r7), (Fl r9), (Fl r11), (Fl r13), (Iv A_c.width), (Iv A_c.height)]), (Pt b16 0), (Pt b23 0), (Pt b32 0), (Pt b16 0), (.agg #[(Fl r1), (Fl r3), (Fl r5)]), (.agg #[(Fl r44), (Fl r46), (Fl r48)]), (Pt b32 0), (Pt b16 3), (.agg #[(Fl r7), (Fl r9), (Fl r11)]), (.agg #[(Fl r58), (Fl r60), (Fl r62)]), (Pt b32 3), (Pt b16 6), (Fl r13), Ud, Ud, Ud, Ud, Ud, Ud, Ud, Ud]) rfl rfl (does_load (u := (Fl r13)) (ev rfl) Try.isAgg38 (Cells.at (Blk.cells ((((((hB18.ext E26).ext E35).ext E42).wr W51 (Nat.ne_of_lt n37)).ext E56).wr W65 (Nat.ne_of_lt n37))) 6 rfl)) rfl ?_
  refine q_is (l' := [(.agg #[(Fl r1), (Fl r3), (Fl r5), (Fl r7), (Fl r9), (Fl r11), (Fl r13), (Iv A_c.width), (Iv A_c.height)]), (Pt b16 0), (Pt b23 0), (Pt b32 0), (Pt b16 0), (.agg #[(Fl r1), (Fl r3), (Fl r5)]), (.agg #[(Fl r44), (Fl r46), (Fl r48)]), (Pt b32 0), (Pt b16 3), (.agg #[(Fl r7), (Fl r9), (Fl r11)]), (.agg #[(Fl r58), (Fl r60), (Fl r62)]), (Pt b32 3), (Pt b16 6), (Fl r13), (Pt b32 6), Ud, Ud, Ud, Ud, Ud, Ud, Ud]) rfl rfl (does_fieldAddr (ev rfl) fa60_2) rfl ?_
  refine seqn rfl rfl (does_store (n := 1) (cs := [(Fl r44), (Fl r46), (Fl r48), (Fl r58), (Fl r60), (Fl r62), (Fl 0), (Iv 0), (Iv 0)]) (u := (Fl r13)) (ev rfl) (ev rfl) Try.sizeOf38 rfl hB66 (Nat.le_of_ble_eq_true rfl) rfl) ?_; rintro _ w72 ⟨rfl, W70, hB71⟩
  change Blk _ _ [(Fl r44), (Fl r46), (Fl r48), (Fl r58), (Fl r60), (Fl r62), (Fl r13), (Iv 0), (Iv 0)] at hB71
  have X73 := Below.wr X68 W70 g39
  refine wpList_nil (hK69 _ _ ?_)
  refine wp_seq_k fun K74 hK74 => ?_
  refine wp_region_lit ?_
  refine q_is (l' := [(.agg #[(Fl r1), (Fl r3), (Fl r5), (Fl r7), (Fl r9), (Fl r11), (Fl r13), (Iv A_c.width), (Iv A_c.height)]), (Pt b16 0), (Pt b23 0), (Pt b32 0), (Pt b16 0), (.agg #[(Fl r1), (Fl r3), (Fl r5)]), (.agg #[(Fl r44), (Fl r46), (Fl r48)]), (Pt b32 0), (Pt b16 3), (.agg #[(Fl r7), (Fl r9), (Fl r11)]), (.agg #[(Fl r58), (Fl r60), (Fl r62)]), (Pt b32 3), (Pt b16 6), (Fl r13), (Pt b32 6), (Pt b16 7), Ud, Ud, Ud, Ud, Ud, Ud]) rfl rfl (does_fieldAddr (ev rfl) fa52_3) rfl ?_
  refine q_is (l' := [(.agg #[(Fl r1), (Fl r3), (Fl r5), (Fl r7), (Fl r9), (Fl r11), (Fl r13), (Iv A_c.width), (Iv A_c.height)]), (Pt b16 0), (Pt b23 0), (Pt b32 0), (Pt b16 0), (.agg #[(Fl r1), (Fl r3), (Fl r5)]), (.agg #[(Fl r44), (Fl r46), (Fl r48)]), (Pt b32 0), (Pt b16 3), (.agg #[(Fl r7), (Fl r9), (Fl r11)]), (.agg #[(Fl r58), (Fl r60), (Fl r62)]), (Pt b32 3), (Pt b16 6), (Fl r13), (Pt b32 6), (Pt b16 7), (Iv A_c.width), Ud, Ud, Ud, Ud, Ud]) rfl rfl (does_load (u := (Iv A_c.width)) (ev rfl) Try.isAgg2 (Cells.at (Blk.cells (((((((hB18.ext E26).ext E35).ext E42).wr W51 (Nat.ne_of_lt n37)).ext E56).wr W65 (Nat.ne_of_lt n37)).wr W70 (Nat.ne_of_lt n37))) 7 rfl)) rfl ?_
  refine q_is (l' := [(.agg #[(Fl r1), (Fl r3), (Fl r5), (Fl r7), (Fl r9), (Fl r11), (Fl r13), (Iv A_c.width), (Iv A_c.height)]), (Pt b16 0), (Pt b23 0), (Pt b32 0), (Pt b16 0), (.agg #[(Fl r1), (Fl r3), (Fl r5)]), (.agg #[(Fl r44), (Fl r46), (Fl r48)]), (Pt b32 0), (Pt b16 3), (.agg #[(Fl r7), (Fl r9), (Fl r11)]), (.agg #[(Fl r58), (Fl r60), (Fl r62)]), (Pt b32 3), (Pt b16 6), (Fl r13), (Pt b32 6), (Pt b16 7), (Iv A_c.width), (Pt b32 7), Ud, Ud, Ud, Ud]) rfl rfl (does_fieldAddr (ev rfl) fa60_3) rfl ?_
  refine seqn rfl rfl (does_store (n := 1) (cs := [(Fl r44), (Fl r46), (Fl r48), (Fl r58), (Fl r60), (Fl r62), (Fl r13), (Iv 0), (Iv 0)]) (u := (Iv A_c.width)) (ev rfl) (ev rfl) Try.sizeOf2 rfl hB71 (Nat.le_of_ble_eq_true rfl) rfl) ?_; rintro _ w77 ⟨rfl, W75, hB76⟩
  change Blk _ _ [(Fl r44), (Fl r46), (Fl r48), (Fl r58), (Fl r60), (Fl r62), (Fl r13), (Iv A_c.width), (Iv 0)] at hB76
  have X78 := Below.wr X73 W75 g39
  refine wpList_nil (hK74 _ _ ?_)
  refine wp_seq_k fun K79 hK79 => ?_
  refine wp_region_lit ?_
  refine q_is (l' := [(.agg #[(Fl r1), (Fl r3), (Fl r5), (Fl r7), (Fl r9), (Fl r11), (Fl r13), (Iv A_c.width), (Iv A_c.height)]), (Pt b16 0), (Pt b23 0), (Pt b32 0), (Pt b16 0), (.agg #[(Fl r1), (Fl r3), (Fl r5)]), (.agg #[(Fl r44), (Fl r46), (Fl r48)]), (Pt b32 0), (Pt b16 3), (.agg #[(Fl r7), (Fl r9), (Fl r11)]), (.agg #[(Fl r58), (Fl r60), (Fl r62)]), (Pt b32 3), (Pt b16 6), (Fl r13), (Pt b32 6), (Pt b16 7), (Iv A_c.width), (Pt b32 7), (Pt b16 8), Ud, Ud, Ud]) rfl rfl (does_fieldAddr (ev rfl) fa52_4) rfl ?_
  refine q_is (l' := [(.agg #[(Fl r1), (Fl r3), (Fl r5), (Fl r7), (Fl r9), (Fl r11), (Fl r13), (Iv A_c.width), (Iv A_c.height)]), (Pt b16 0), (Pt b23 0), (Pt b32 0), (Pt b16 0), (.agg #[(Fl r1), (Fl r3), (Fl r5)]), (.agg #[(Fl r44), (Fl r46), (Fl r48)]), (Pt b32 0), (Pt b16 3), (.agg #[(Fl r7), (Fl r9), (Fl r11)]), (.agg #[(Fl r58), (Fl r60), (Fl r62)]), (Pt b32 3), (Pt b16 6), (Fl r13), (Pt b32 6), (Pt b16 7), (Iv A_c.width), (Pt b32 7), (Pt b16 8), (Iv A_c.height), Ud, Ud]) rfl rfl (does_load (u := (Iv A_c.height)) (ev rfl) Try.isAgg2 (Cells.at (Blk.cells ((((((((hB18.ext E26).ext E35).ext E42).wr W51 (Nat.ne_of_lt n37)).ext E56).wr W65 (Nat.ne_of_lt n37)).wr W70 (Nat.ne_of_lt n37)).wr W75 (Nat.ne_of_lt n37))) 8 rfl)) rfl ?_
  refine q_is (l' := [(.agg #[(Fl r1), (Fl r3), (Fl r5), (Fl r7), (Fl r9), (Fl r11), (Fl r13), (Iv A_c.width), (Iv A_c.height)]), (Pt b16 0), (Pt b23 0), (Pt b32 0), (Pt b16 0), (.agg #[(Fl r1), (Fl r3), (Fl r5)]), (.agg #[(Fl r44), (Fl r46), (Fl r48)]), (Pt b32 0), (Pt b16 3), (.agg #[(Fl r7), (Fl r9), (Fl r11)]), (.agg #[(Fl r58), (Fl r60), (Fl r62)]), (Pt b32 3), (Pt b16 6), (Fl r13), (Pt b32 6), (Pt b16 7), (Iv A_c.width), (Pt b32 7), (Pt b16 8), (Iv A_c.height), (Pt b32 8), Ud]) rfl rfl (does_fieldAddr (ev rfl) fa60_4) rfl ?_
  refine seqn rfl rfl (does_store (n := 1) (cs := [(Fl r44), (Fl r46), (Fl r48), (Fl r58), (Fl r60), (Fl r62), (Fl r13), (Iv A_c.width), (Iv 0)]) (u := (Iv A_c.height)) (ev rfl) (ev rfl) Try.sizeOf2 rfl hB76 (Nat.le_of_ble_eq_true rfl) rfl) ?_; rintro _ w82 ⟨rfl, W80, hB81⟩
  change Blk _ _ [(Fl r44), (Fl r46), (Fl r48), (Fl r58), (Fl r60), (Fl r62), (Fl r13), (Iv A_c.width), (Iv A_c.height)] at hB81
  have X83 := Below.wr X78 W80 g39
  refine wpList_nil (hK79 _ _ ?_)
  refine wp_seq_k fun K84 hK84 => ?_
  refine wp_region_lit ?_
  refine q_is (l' := [(.agg #[(Fl r1), (Fl r3), (Fl r5), (Fl r7), (Fl r9), (Fl r11), (Fl r13), (Iv A_c.width), (Iv A_c.height)]), (Pt b16 0), (Pt b23 0), (Pt b32 0), (Pt b16 0), (.agg #[(Fl r1), (Fl r3), (Fl r5)]), (.agg #[(Fl r44), (Fl r46), (Fl r48)]), (Pt b32 0), (Pt b16 3), (.agg #[(Fl r7), (Fl r9), (Fl r11)]), (.agg #[(Fl r58), (Fl r60), (Fl r62)]), (Pt b32 3), (Pt b16 6), (Fl r13), (Pt b32 6), (Pt b16 7), (Iv A_c.width), (Pt b32 7), (Pt b16 8), (Iv A_c.height), (Pt b32 8), (.agg #[(Fl r44), (Fl r46), (Fl r48), (Fl r58), (Fl r60), (Fl r62), (Fl r13), (Iv A_c.width), (Iv A_c.height)])]) rfl rfl (does_loadAgg (cs := [(Fl r44), (Fl r46), (Fl r48), (Fl r58), (Fl r60), (Fl r62), (Fl r13), (Iv A_c.width), (Iv A_c.height)]) (ev rfl) Try.isAgg60 Try.sizeOf60 (Blk.cells hB81) rfl) rfl ?_
  refine seqn rfl rfl (does_store (n := 9) (cs := [(Fl 0), (Fl 0), (Fl 0), (Fl 0), (Fl 0), (Fl 0), (Fl 0), (Iv 0), (Iv 0)]) (u := (.agg #[(Fl r44), (Fl r46), (Fl r48), (Fl r58), (Fl r60), (Fl r62), (Fl r13), (Iv A_c.width), (Iv A_c.height)])) (ev rfl) (ev rfl) Try.sizeOf60 rfl ((((((((hB25.ext E35).ext E42).wr W51 (Nat.ne_of_lt n38)).ext E56).wr W65 (Nat.ne_of_lt n38)).wr W70 (Nat.ne_of_lt n38)).wr W75 (Nat.ne_of_lt n38)).wr W80 (Nat.ne_of_lt n38)) (Nat.le_of_ble_eq_true rfl) rfl) ?_; rintro _ w87 ⟨rfl, W85, hB86⟩
  change Blk _ _ [(Fl r44), (Fl r46), (Fl r48), (Fl r58), (Fl r60), (Fl r62), (Fl r13), (Iv A_c.width), (Iv A_c.height)] at hB86
  have X88 := Below.wr X83 W85 g29
  refine wpList_nil (hK84 _ _ ?_)
  refine wp_ret ?_
  refine ret_val (v := (.agg #[(Fl r44), (Fl r46), (Fl r48), (Fl r58), (Fl r60), (Fl r62), (Fl r13), (Iv A_c.width), (Iv A_c.height)])) (res_C rfl (slot rfl) (run_loadAgg (cs := [(Fl r44), (Fl r46), (Fl r48), (Fl r58), (Fl r60), (Fl r62), (Fl r13), (Iv A_c.width), (Iv A_c.height)]) Try.isAgg60 Try.sizeOf60 (Blk.cells hB86) rfl)) X88 ?_
  exact ⟨[(Fl r44), (Fl r46), (Fl r48), (Fl r58), (Fl r60), (Fl r62), (Fl r13), (Iv A_c.width), (Iv A_c.height)], rfl, ⟨r44, r46, r48, r58, r60, r62, r13, rfl, h45, h47, h49, h59, h61, h63, h14⟩⟩

/- laws.toMarch -/
theorem c_laws_toMarch (a : List Value) (A_a : MarchT) (w : World) (hv_a : RMarchT w A_a a) : Gives Try.prog 42 #[(.agg a.toArray)] w (fun v w' => ∃ cs_1 : List Value, v = (.agg cs_1.toArray) ∧ RMarchT w A_a cs_1) := by
  obtain ⟨r1, r3, rfl, h2, h4⟩ := hv_a
  refine enter [(.agg #[(Fl r1), (Fl r3), (Iv A_a.steps)]), Ud, Ud, Ud, Ud, Ud, Ud, Ud, Ud, Ud, Ud, Ud, Ud, Ud] Try.func42 rfl Try.ntmps42 rfl ?_
  refine wp_seq_k fun K5 hK5 => ?_
  refine wp_region_lit ?_
  refine seqd rfl rfl (does_box (u := (.agg #[(Fl r1), (Fl r3), (Iv A_a.steps)])) (ev rfl)) ?_; rintro _ w10 ⟨b6, rfl, hb7, hB8, E9⟩
  have g11 : w.heap.size ≤ b6 := Nat.le_trans (Below.size (Ext.refl w)) hb7
  change Blk _ _ [(Fl r1), (Fl r3), (Iv A_a.steps)] at hB8
  have X12 := Ext.gr (Ext.refl w) E9
  show wpList _ _ _ _ (fr [(.agg #[(Fl r1), (Fl r3), (Iv A_a.steps)]), (Pt b6 0), Ud, Ud, Ud, Ud, Ud, Ud, Ud, Ud, Ud, Ud, Ud, Ud]) _
  refine seqd rfl rfl (does_alloc z61) ?_; rintro _ w17 ⟨b13, rfl, hb14, hB15, E16⟩
  have n18 : b6 < b13 := Nat.lt_of_lt_of_le (Blk.lt hB8) hb14
  have g19 : w.heap.size ≤ b13 := Nat.le_trans (Below.size X12) hb14
  change Blk _ _ [(Fl 0), (Fl 0), (Iv 0)] at hB15
  have X20 := Ext.gr X12 E16
  show wpList _ _ _ _ (fr [(.agg #[(Fl r1), (Fl r3), (Iv A_a.steps)]), (Pt b6 0), (Pt b13 0), Ud, Ud, Ud, Ud, Ud, Ud, Ud, Ud, Ud, Ud, Ud]) _
  refine wpList_nil (hK5 _ _ ?_)
  refine wp_seq_k fun K21 hK21 => ?_
  refine wp_region_lit ?_
  refine seqd rfl rfl (does_alloc z61) ?_; rintro _ w26 ⟨b22, rfl, hb23, hB24, E25⟩
  have n27 : b6 < b22 := Nat.lt_of_lt_of_le (Blk.lt (hB8.ext E16)) hb23
  have n28 : b13 < b22 := Nat.lt_of_lt_of_le (Blk.lt hB15) hb23
  have g29 : w.heap.size ≤ b22 := Nat.le_trans (Below.size X20) hb23
  change Blk _ _ [(Fl 0), (Fl 0), (Iv 0)] at hB24
  have X30 := Ext.gr X20 E25
  show wpList _ _ _ _ (fr [(.agg #[(Fl r1), (Fl r3), (Iv A_a.steps)]), (Pt b6 0), (Pt b13 0), (Pt b22 0), Ud, Ud, Ud, Ud, Ud, Ud, Ud, Ud, Ud, Ud]) _
  refine wpList_nil (hK21 _ _ ?_)
  refine wp_seq_k fun K31 hK31 => ?_
  refine wp_region_lit ?_
  refine q_is (l' := [(.agg #[(Fl r1), (Fl r3), (Iv A_a.steps)]), (Pt b6 0), (Pt b13 0), (Pt b22 0), (Pt b6 0), Ud, Ud, Ud, Ud, Ud, Ud, Ud, Ud, Ud]) rfl rfl (does_fieldAddr (ev rfl) fa54_0) rfl ?_
  refine q_is (l' := [(.agg #[(Fl r1), (Fl r3), (Iv A_a.steps)]), (Pt b6 0), (Pt b13 0), (Pt b22 0), (Pt b6 0), (Fl r1), Ud, Ud, Ud, Ud, Ud, Ud, Ud, Ud]) rfl rfl (does_load (u := (Fl r1)) (ev rfl) Try.isAgg38 (Cells.at (Blk.cells ((hB8.ext E16).ext E25)) 0 rfl)) rfl ?_
  refine q_is (l' := [(.agg #[(Fl r1), (Fl r3), (Iv A_a.steps)]), (Pt b6 0), (Pt b13 0), (Pt b22 0), (Pt b6 0), (Fl r1), (Pt b22 0), Ud, Ud, Ud, Ud, Ud, Ud, Ud]) rfl rfl (does_fieldAddr (ev rfl) fa61_0) rfl ?_
  refine seqn rfl rfl (does_store (n := 1) (cs := [(Fl 0), (Fl 0), (Iv 0)]) (u := (Fl r1)) (ev rfl) (ev rfl) Try.sizeOf38 rfl hB24 (Nat.le_of_ble_eq_true rfl) rfl) ?_; rintro _ w34 ⟨rfl, W32, hB33⟩
  change Blk _ _ [(Fl r1), (Fl 0), (Iv 0)] at hB33
  have X35 := Below.wr X30 W32 g29
  refine wpList_nil (hK31 _ _ ?_)
  refine wp_seq_k fun K36 hK36 => ?_
  refine wp_region_lit ?_
  refine q_is (l' := [(.agg #[(Fl r1), (Fl r3), (Iv A_a.steps)]), (Pt b6 0), (Pt b13 0), (Pt b22 0), (Pt b6 0), (Fl r1), (Pt b22 0), (Pt b6 1), Ud, Ud, Ud, Ud, Ud, Ud]) rfl rfl (does_fieldAddr (ev rfl) fa54_1) rfl ?_
  refine q_is (l' := [(.agg #[(Fl r1), (Fl r3), (Iv A_a.steps)]), (Pt b6 0), (Pt b13 0), (Pt b22 0), (Pt b6 0), (Fl r1), (Pt b22 0), (Pt b6 1), (Fl r3), Ud, Ud, Ud, Ud, Ud]) rfl rfl (does_load (u := (Fl r3)) (ev rfl) Try.isAgg38 (Cells.at (Blk.cells (((hB8.ext E16).ext E25).wr W32 (Nat.ne_of_lt n27))) 1 rfl)) rfl ?_
  refine q_is (l' := [(.agg #[(Fl r1), (Fl r3), (Iv A_a.steps)]), (Pt b6 0), (Pt b13 0), (Pt b22 0), (Pt b6 0), (Fl r1), (Pt b22 0), (Pt b6 1), (Fl r3), (Pt b22 1), Ud, Ud, Ud, Ud]) rfl rfl (does_fieldAddr (ev rfl) fa61_1) rfl ?_
  refine seqn rfl rfl (does_store (n := 1) (cs := [(Fl r1), (Fl 0), (Iv 0)]) (u := (Fl r3)) (ev rfl) (ev rfl) Try.sizeOf38 rfl hB33 (Nat.le_of_ble_eq_true rfl) rfl) ?_; rintro _ w39 ⟨rfl, W37, hB38⟩
  change Blk _ _ [(Fl r1), (Fl r3), (Iv 0)] at hB38
  have X40 := Below.wr X35 W37 g29
  refine wpList_nil (hK36 _ _ ?_)
  refine wp_seq_k fun K41 hK41 => ?_
  refine wp_region_lit ?_
  refine q_is (l' := [(.agg #[(Fl r1), (Fl r3), (Iv A_a.steps)]), (Pt b6 0), (Pt b13 0), (Pt b22 0), (Pt b6 0), (Fl r1), (Pt b22 0), (Pt b6 1), (Fl r3), (Pt b22 1), (Pt b6 2), Ud, Ud, Ud]) rfl rfl (does_fieldAddr (ev rfl) fa54_2) rfl ?_
  refine q_is (l' := [(.agg #[(Fl r1), (Fl r3), (Iv A_a.steps)]), (Pt b6 0), (Pt b13 0), (Pt b22 0), (Pt b6 0), (Fl r1), (Pt b22 0), (Pt b6 1), (Fl r3), (Pt b22 1), (Pt b6 2), (Iv A_a.steps), Ud, Ud]) rfl rfl (does_load (u := (Iv A_a.steps)) (ev rfl) Try.isAgg2 (Cells.at (Blk.cells ((((hB8.ext E16).ext E25).wr W32 (Nat.ne_of_lt n27)).wr W37 (Nat.ne_of_lt n27))) 2 rfl)) rfl ?_
  refine q_is (l' := [(.agg #[(Fl r1), (Fl r3), (Iv A_a.steps)]), (Pt b6 0), (Pt b13 0), (Pt b22 0), (Pt b6 0), (Fl r1), (Pt b22 0), (Pt b6 1), (Fl r3), (Pt b22 1), (Pt b6 2), (Iv A_a.steps), (Pt b22 2), Ud]) rfl rfl (does_fieldAddr (ev rfl) fa61_2) rfl ?_
  refine seqn rfl rfl (does_store (n := 1) (cs := [(Fl r1), (Fl r3), (Iv 0)]) (u := (Iv A_a.steps)) (ev rfl) (ev rfl) Try.sizeOf2 rfl hB38 (Nat.le_of_ble_eq_true rfl) rfl) ?_; rintro _ w44 ⟨rfl, W42, hB43⟩
  change Blk _ _ [(Fl r1), (Fl r3), (Iv A_a.steps)] at hB43
  have X45 := Below.wr X40 W42 g29
  refine wpList_nil (hK41 _ _ ?_)
  refine wp_seq_k fun K46 hK46 => ?_
  refine wp_region_lit ?_
  refine q_is (l' := [(.agg #[(Fl r1), (Fl r3), (Iv A_a.steps)]), (Pt b6 0), (Pt b13 0), (Pt b22 0), (Pt b6 0), (Fl r1), (Pt b22 0), (Pt b6 1), (Fl r3), (Pt b22 1), (Pt b6 2), (Iv A_a.steps), (Pt b22 2), (.agg #[(Fl r1), (Fl r3), (Iv A_a.steps)])]) rfl rfl (does_loadAgg (cs := [(Fl r1), (Fl r3), (Iv A_a.steps)]) (ev rfl) Try.isAgg61 Try.sizeOf61 (Blk.cells hB43) rfl) rfl ?_
  refine seqn rfl rfl (does_store (n := 3) (cs := [(Fl 0), (Fl 0), (Iv 0)]) (u := (.agg #[(Fl r1), (Fl r3), (Iv A_a.steps)])) (ev rfl) (ev rfl) Try.sizeOf61 rfl ((((hB15.ext E25).wr W32 (Nat.ne_of_lt n28)).wr W37 (Nat.ne_of_lt n28)).wr W42 (Nat.ne_of_lt n28)) (Nat.le_of_ble_eq_true rfl) rfl) ?_; rintro _ w49 ⟨rfl, W47, hB48⟩
  change Blk _ _ [(Fl r1), (Fl r3), (Iv A_a.steps)] at hB48
  have X50 := Below.wr X45 W47 g19
  refine wpList_nil (hK46 _ _ ?_)
  refine wp_ret ?_
  refine ret_val (v := (.agg #[(Fl r1), (Fl r3), (Iv A_a.steps)])) (res_C rfl (slot rfl) (run_loadAgg (cs := [(Fl r1), (Fl r3), (Iv A_a.steps)]) Try.isAgg61 Try.sizeOf61 (Blk.cells hB48) rfl)) X50 ?_
  exact ⟨[(Fl r1), (Fl r3), (Iv A_a.steps)], rfl, ⟨r1, r3, rfl, h2, h4⟩⟩

/- laws.toView -/
theorem c_laws_toView (a : List Value) (A_a : ViewT) (w : World) (hv_a : RViewT w A_a a) (hst : ndTot A_a.shape.nodes ≤ 1048576) : Gives Try.prog 19 #[(.agg a.toArray)] w (fun v w' => ∃ cs_1 : List Value, v = (.agg cs_1.toArray) ∧ Hang w.heap.size w' (fun u => RViewT u A_a cs_1)) := by
  obtain ⟨r3, r5, r7, r9, r11, r13, r15, r17, r19, r21, r23, r25, y1, rfl, h4, h6, h8, h10, h12, h14, h16, h18, h20, h22, h24, h26, h2⟩ := hv_a
  have hs29 := h2; have hs29l := Sl.len h2; obtain ⟨p27, q28, rfl⟩ := Sl.shape h2
  refine enter [(.agg #[(.slice p27 A_a.shape.nodes.length q28), (Fl r3), (Fl r5), (Fl r7), (Fl r9), (Fl r11), (Fl r13), (Fl r15), (Iv A_a.cam.width), (Iv A_a.cam.height), (Fl r17), (Fl r19), (Fl r21), (Fl r23), (Fl r25), (Iv A_a.march.steps)]), Ud, Ud, Ud, Ud, Ud, Ud, Ud, Ud, Ud, Ud, Ud, Ud, Ud, Ud, Ud, Ud, Ud, Ud, Ud, Ud] Try.func19 rfl Try.ntmps19 rfl ?_
  refine wp_seq_k fun K30 hK30 => ?_
  refine wp_region_lit ?_
  refine seqd rfl rfl (does_box (u := (.agg #[(.slice p27 A_a.shape.nodes.length q28), (Fl r3), (Fl r5), (Fl r7), (Fl r9), (Fl r11), (Fl r13), (Fl r15), (Iv A_a.cam.width), (Iv A_a.cam.height), (Fl r17), (Fl r19), (Fl r21), (Fl r23), (Fl r25), (Iv A_a.march.steps)])) (ev rfl)) ?_; rintro _ w35 ⟨b31, rfl, hb32, hB33, E34⟩
  have g36 : w.heap.size ≤ b31 := Nat.le_trans (Below.size (Ext.refl w)) hb32
  change Blk _ _ [(.slice p27 A_a.shape.nodes.length q28), (Fl r3), (Fl r5), (Fl r7), (Fl r9), (Fl r11), (Fl r13), (Fl r15), (Iv A_a.cam.width), (Iv A_a.cam.height), (Fl r17), (Fl r19), (Fl r21), (Fl r23), (Fl r25), (Iv A_a.march.steps)] at hB33
  have X37 := Ext.gr (Ext.refl w) E34
  show wpList _ _ _ _ (fr [(.agg #[(.slice p27 A_a.shape.nodes.length q28), (Fl r3), (Fl r5), (Fl r7), (Fl r9), (Fl r11), (Fl r13), (Fl r15), (Iv A_a.cam.width), (Iv A_a.cam.height), (Fl r17), (Fl r19), (Fl r21), (Fl r23), (Fl r25), (Iv A_a.march.steps)]), (Pt b31 0), Ud, Ud, Ud, Ud, Ud, Ud, Ud, Ud, Ud, Ud, Ud, Ud, Ud, Ud, Ud, Ud, Ud, Ud, Ud]) _
  refine seqd rfl rfl (does_alloc z63) ?_; rintro _ w42 ⟨b38, rfl, hb39, hB40, E41⟩
  have n43 : b31 < b38 := Nat.lt_of_lt_of_le (Blk.lt hB33) hb39
  have g44 : w.heap.size ≤ b38 := Nat.le_trans (Below.size X37) hb39
  change Blk _ _ [(.slice none 0 0), (Fl 0), (Fl 0), (Fl 0), (Fl 0), (Fl 0), (Fl 0), (Fl 0), (Iv 0), (Iv 0), (Fl 0), (Fl 0), (Fl 0), (Fl 0), (Fl 0), (Iv 0)] at hB40
  have X45 := Ext.gr X37 E41
  show wpList _ _ _ _ (fr [(.agg #[(.slice p27 A_a.shape.nodes.length q28), (Fl r3), (Fl r5), (Fl r7), (Fl r9), (Fl r11), (Fl r13), (Fl r15), (Iv A_a.cam.width), (Iv A_a.cam.height), (Fl r17), (Fl r19), (Fl r21), (Fl r23), (Fl r25), (Iv A_a.march.steps)]), (Pt b31 0), (Pt b38 0), Ud, Ud, Ud, Ud, Ud, Ud, Ud, Ud, Ud, Ud, Ud, Ud, Ud, Ud, Ud, Ud, Ud, Ud]) _
  refine wpList_nil (hK30 _ _ ?_)
  refine wp_seq_k fun K46 hK46 => ?_
  refine wp_region_lit ?_
  refine seqd rfl rfl (does_alloc z63) ?_; rintro _ w51 ⟨b47, rfl, hb48, hB49, E50⟩
  have n52 : b31 < b47 := Nat.lt_of_lt_of_le (Blk.lt (hB33.ext E41)) hb48
  have n53 : b38 < b47 := Nat.lt_of_lt_of_le (Blk.lt hB40) hb48
  have g54 : w.heap.size ≤ b47 := Nat.le_trans (Below.size X45) hb48
  change Blk _ _ [(.slice none 0 0), (Fl 0), (Fl 0), (Fl 0), (Fl 0), (Fl 0), (Fl 0), (Fl 0), (Iv 0), (Iv 0), (Fl 0), (Fl 0), (Fl 0), (Fl 0), (Fl 0), (Iv 0)] at hB49
  have X55 := Ext.gr X45 E50
  show wpList _ _ _ _ (fr [(.agg #[(.slice p27 A_a.shape.nodes.length q28), (Fl r3), (Fl r5), (Fl r7), (Fl r9), (Fl r11), (Fl r13), (Fl r15), (Iv A_a.cam.width), (Iv A_a.cam.height), (Fl r17), (Fl r19), (Fl r21), (Fl r23), (Fl r25), (Iv A_a.march.steps)]), (Pt b31 0), (Pt b38 0), (Pt b47 0), Ud, Ud, Ud, Ud, Ud, Ud, Ud, Ud, Ud, Ud, Ud, Ud, Ud, Ud, Ud, Ud, Ud]) _
  refine wpList_nil (hK46 _ _ ?_)
  refine wp_seq_k fun K56 hK56 => ?_
  refine wp_region_lit ?_
  refine q_is (l' := [(.agg #[(.slice p27 A_a.shape.nodes.length q28), (Fl r3), (Fl r5), (Fl r7), (Fl r9), (Fl r11), (Fl r13), (Fl r15), (Iv A_a.cam.width), (Iv A_a.cam.height), (Fl r17), (Fl r19), (Fl r21), (Fl r23), (Fl r25), (Iv A_a.march.steps)]), (Pt b31 0), (Pt b38 0), (Pt b47 0), (Pt b31 0), Ud, Ud, Ud, Ud, Ud, Ud, Ud, Ud, Ud, Ud, Ud, Ud, Ud, Ud, Ud, Ud]) rfl rfl (does_fieldAddr (ev rfl) fa56_0) rfl ?_
  refine q_is (l' := [(.agg #[(.slice p27 A_a.shape.nodes.length q28), (Fl r3), (Fl r5), (Fl r7), (Fl r9), (Fl r11), (Fl r13), (Fl r15), (Iv A_a.cam.width), (Iv A_a.cam.height), (Fl r17), (Fl r19), (Fl r21), (Fl r23), (Fl r25), (Iv A_a.march.steps)]), (Pt b31 0), (Pt b38 0), (Pt b47 0), (Pt b31 0), (.agg #[(.slice p27 A_a.shape.nodes.length q28)]), Ud, Ud, Ud, Ud, Ud, Ud, Ud, Ud, Ud, Ud, Ud, Ud, Ud, Ud, Ud]) rfl rfl (does_loadAgg (cs := [(.slice p27 A_a.shape.nodes.length q28)]) (ev rfl) Try.isAgg24 Try.sizeOf24 (Cells.sub (Blk.cells ((hB33.ext E41).ext E50)) 0 1) rfl) rfl ?_
  refine seqd rfl rfl (does_call (args := #[(.agg #[(.slice p27 A_a.shape.nodes.length q28)])]) cal8 (evs rfl) (c_laws_toShape [(.slice p27 A_a.shape.nodes.length q28)] A_a.shape _ ⟨(.slice p27 A_a.shape.nodes.length q28), rfl, (Sl.ext hs29 RNodeT.mono X55)⟩ (by omega))) ?_; rintro _ w58 ⟨E57, ⟨cs60, rfl, hh59⟩⟩
  have X61 := Ext.gr X55 E57
  have n62 : b31 < w51.heap.size := Blk.lt ((hB33.ext E41).ext E50)
  have n63 : b38 < w51.heap.size := Blk.lt (hB40.ext E50)
  have n64 : b47 < w51.heap.size := Blk.lt hB49
  obtain ⟨y65, rfl, h66⟩ := hh59.get
  have h66l := Sl.len h66; obtain ⟨p67, q68, rfl⟩ := Sl.shape h66
  have hh69 : Hang w51.heap.size w58 (fun u => Sl RNodeT 4 u (.slice p67 A_a.shape.nodes.length q68) A_a.shape.nodes) := fun u hu => by obtain ⟨_, hq, _⟩ := hh59 u hu; cases hq; assumption
  show wpList _ _ _ _ (fr [(.agg #[(.slice p27 A_a.shape.nodes.length q28), (Fl r3), (Fl r5), (Fl r7), (Fl r9), (Fl r11), (Fl r13), (Fl r15), (Iv A_a.cam.width), (Iv A_a.cam.height), (Fl r17), (Fl r19), (Fl r21), (Fl r23), (Fl r25), (Iv A_a.march.steps)]), (Pt b31 0), (Pt b38 0), (Pt b47 0), (Pt b31 0), (.agg #[(.slice p27 A_a.shape.nodes.length q28)]), (.agg #[(.slice p67 A_a.shape.nodes.length q68)]), Ud, Ud, Ud, Ud, Ud, Ud, Ud, Ud, Ud, Ud, Ud, Ud, Ud, Ud]) _
  refine q_is (l' := [(.agg #[(.slice p27 A_a.shape.nodes.length q28), (Fl r3), (Fl r5), (Fl r7), (Fl r9), (Fl r11), (Fl r13), (Fl r15), (Iv A_a.cam.width), (Iv A_a.cam.height), (Fl r17), (Fl r19), (Fl r21), (Fl r23), (Fl r25), (Iv A_a.march.steps)]), (Pt b31 0), (Pt b38 0), (Pt b47 0), (Pt b31 0), (.agg #[(.slice p27 A_a.shape.nodes.length q28)]), (.agg #[(.slice p67 A_a.shape.nodes.length q68)]), (Pt b47 0), Ud, Ud, Ud, Ud, Ud, Ud, Ud, Ud, Ud, Ud, Ud, Ud, Ud]) rfl rfl (does_fieldAddr (ev rfl) fa63_0) rfl ?_
  refine seqn rfl rfl (does_store (n := 1) (cs := [(.slice none 0 0), (Fl 0), (Fl 0), (Fl 0), (Fl 0), (Fl 0), (Fl 0), (Fl 0), (Iv 0), (Iv 0), (Fl 0), (Fl 0), (Fl 0), (Fl 0), (Fl 0), (Iv 0)]) (u := (.agg #[(.slice p67 A_a.shape.nodes.length q68)])) (ev rfl) (ev rfl) Try.sizeOf30 rfl (hB49.ext E57) (Nat.le_of_ble_eq_true rfl) rfl) ?_; rintro _ w72 ⟨rfl, W70, hB71⟩
  change Blk _ _ [(.slice p67 A_a.shape.nodes.length q68), (Fl 0), (Fl 0), (Fl 0), (Fl 0), (Fl 0), (Fl 0), (Fl 0), (Iv 0), (Iv 0), (Fl 0), (Fl 0), (Fl 0), (Fl 0), (Fl 0), (Iv 0)] at hB71
  have X73 := Below.wr X61 W70 g54
  refine wpList_nil (hK56 _ _ ?_)
  refine wp_seq_k fun K74 hK74 => ?_
  refine wp_region_lit ?_
  refine q_is (l' := [(.agg #[(.slice p27 A_a.shape.nodes.length q28), (Fl r3), (Fl r5), (Fl r7), (Fl r9), (Fl r11), (Fl r13), (Fl r15), (Iv A_a.cam.width), (Iv A_a.cam.height), (Fl r17), (Fl r19), (Fl r21), (Fl r23), (Fl r25), (Iv A_a.march.steps)]), (Pt b31 0), (Pt b38 0), (Pt b47 0), (Pt b31 0), (.agg #[(.slice p27 A_a.shape.nodes.length q28)]), (.agg #[(.slice p67 A_a.shape.nodes.length q68)]), (Pt b47 0), (Pt b31 1), Ud, Ud, Ud, Ud, Ud, Ud, Ud, Ud, Ud, Ud, Ud, Ud]) rfl rfl (does_fieldAddr (ev rfl) fa56_1) rfl ?_
  refine q_is (l' := [(.agg #[(.slice p27 A_a.shape.nodes.length q28), (Fl r3), (Fl r5), (Fl r7), (Fl r9), (Fl r11), (Fl r13), (Fl r15), (Iv A_a.cam.width), (Iv A_a.cam.height), (Fl r17), (Fl r19), (Fl r21), (Fl r23), (Fl r25), (Iv A_a.march.steps)]), (Pt b31 0), (Pt b38 0), (Pt b47 0), (Pt b31 0), (.agg #[(.slice p27 A_a.shape.nodes.length q28)]), (.agg #[(.slice p67 A_a.shape.nodes.length q68)]), (Pt b47 0), (Pt b31 1), (.agg #[(Fl r3), (Fl r5), (Fl r7), (Fl r9), (Fl r11), (Fl r13), (Fl r15), (Iv A_a.cam.width), (Iv A_a.cam.height)]), Ud, Ud, Ud, Ud, Ud, Ud, Ud, Ud, Ud, Ud, Ud]) rfl rfl (does_loadAgg (cs := [(Fl r3), (Fl r5), (Fl r7), (Fl r9), (Fl r11), (Fl r13), (Fl r15), (Iv A_a.cam.width), (Iv A_a.cam.height)]) (ev rfl) Try.isAgg52 Try.sizeOf52 (Cells.sub (Blk.cells ((((hB33.ext E41).ext E50).ext E57).wr W70 (Nat.ne_of_lt n52))) 1 9) rfl) rfl ?_
  refine seqd rfl rfl (does_call (args := #[(.agg #[(Fl r3), (Fl r5), (Fl r7), (Fl r9), (Fl r11), (Fl r13), (Fl r15), (Iv A_a.cam.width), (Iv A_a.cam.height)])]) cal40 (evs rfl) (c_laws_toCamera [(Fl r3), (Fl r5), (Fl r7), (Fl r9), (Fl r11), (Fl r13), (Fl r15), (Iv A_a.cam.width), (Iv A_a.cam.height)] A_a.cam _ ⟨r3, r5, r7, r9, r11, r13, r15, rfl, h4, h6, h8, h10, h12, h14, h16⟩)) ?_; rintro _ w76 ⟨E75, ⟨_, rfl, ⟨r77, r79, r81, r83, r85, r87, r89, rfl, h78, h80, h82, h84, h86, h88, h90⟩⟩⟩
  have X91 := Ext.gr X73 E75
  show wpList _ _ _ _ (fr [(.agg #[(.slice p27 A_a.shape.nodes.length q28), (Fl r3), (Fl r5), (Fl r7), (Fl r9), (Fl r11), (Fl r13), (Fl r15), (Iv A_a.cam.width), (Iv A_a.cam.height), (Fl r17), (Fl r19), (Fl r21), (Fl r23), (Fl r25), (Iv A_a.march.steps)]), (Pt b31 0), (Pt b38 0), (Pt b47 0), (Pt b31 0), (.agg #[(.slice p27 A_a.shape.nodes.length q28)]), (.agg #[(.slice p67 A_a.shape.nodes.length q68)]), (Pt b47 0), (Pt b31 1), (.agg #[(Fl r3), (Fl r5), (Fl r7), (Fl r9), (Fl r11), (Fl r13), (Fl r15), (Iv A_a.cam.width), (Iv A_a.cam.height)]), (.agg #[(Fl r77), (Fl r79), (Fl r81), (Fl r83), (Fl r85), (Fl r87), (Fl r89), (Iv A_a.cam.width), (Iv A_a.cam.height)]), Ud, Ud, Ud, Ud, Ud, Ud, Ud, Ud, Ud, Ud]) _
  refine q_is (l' := [(.agg #[(.slice p27 A_a.shape.nodes.length q28), (Fl r3), (Fl r5), (Fl r7), (Fl r9), (Fl r11), (Fl r13), (Fl r15), (Iv A_a.cam.width), (Iv A_a.cam.height), (Fl r17), (Fl r19), (Fl r21), (Fl r23), (Fl r25), (Iv A_a.march.steps)]), (Pt b31 0), (Pt b38 0), (Pt b47 0), (Pt b31 0), (.agg #[(.slice p27 A_a.shape.nodes.length q28)]), (.agg #[(.slice p67 A_a.shape.nodes.length q68)]), (Pt b47 0), (Pt b31 1), (.agg #[(Fl r3), (Fl r5), (Fl r7), (Fl r9), (Fl r11), (Fl r13), (Fl r15), (Iv A_a.cam.width), (Iv A_a.cam.height)]), (.agg #[(Fl r77), (Fl r79), (Fl r81), (Fl r83), (Fl r85), (Fl r87), (Fl r89), (Iv A_a.cam.width), (Iv A_a.cam.height)]), (Pt b47 1), Ud, Ud, Ud, Ud, Ud, Ud, Ud, Ud, Ud]) rfl rfl (does_fieldAddr (ev rfl) fa63_1) rfl ?_
  refine seqn rfl rfl (does_store (n := 9) (cs := [(.slice p67 A_a.shape.nodes.length q68), (Fl 0), (Fl 0), (Fl 0), (Fl 0), (Fl 0), (Fl 0), (Fl 0), (Iv 0), (Iv 0), (Fl 0), (Fl 0), (Fl 0), (Fl 0), (Fl 0), (Iv 0)]) (u := (.agg #[(Fl r77), (Fl r79), (Fl r81), (Fl r83), (Fl r85), (Fl r87), (Fl r89), (Iv A_a.cam.width), (Iv A_a.cam.height)])) (ev rfl) (ev rfl) Try.sizeOf60 rfl (hB71.ext E75) (Nat.le_of_ble_eq_true rfl) rfl) ?_; rintro _ w94 ⟨rfl, W92, hB93⟩
  change Blk _ _ [(.slice p67 A_a.shape.nodes.length q68), (Fl r77), (Fl r79), (Fl r81), (Fl r83), (Fl r85), (Fl r87), (Fl r89), (Iv A_a.cam.width), (Iv A_a.cam.height), (Fl 0), (Fl 0), (Fl 0), (Fl 0), (Fl 0), (Iv 0)] at hB93
  have X95 := Below.wr X91 W92 g54
  refine wpList_nil (hK74 _ _ ?_)
  refine wp_seq_k fun K96 hK96 => ?_
  refine wp_region_lit ?_
  refine q_is (l' := [(.agg #[(.slice p27 A_a.shape.nodes.length q28), (Fl r3), (Fl r5), (Fl r7), (Fl r9), (Fl r11), (Fl r13), (Fl r15), (Iv A_a.cam.width), (Iv A_a.cam.height), (Fl r17), (Fl r19), (Fl r21), (Fl r23), (Fl r25), (Iv A_a.march.steps)]), (Pt b31 0), (Pt b38 0), (Pt b47 0), (Pt b31 0), (.agg #[(.slice p27 A_a.shape.nodes.length q28)]), (.agg #[(.slice p67 A_a.shape.nodes.length q68)]), (Pt b47 0), (Pt b31 1), (.agg #[(Fl r3), (Fl r5), (Fl r7), (Fl r9), (Fl r11), (Fl r13), (Fl r15), (Iv A_a.cam.width), (Iv A_a.cam.height)]), (.agg #[(Fl r77), (Fl r79), (Fl r81), (Fl r83), (Fl r85), (Fl r87), (Fl r89), (Iv A_a.cam.width), (Iv A_a.cam.height)]), (Pt b47 1), (Pt b31 10), Ud, Ud, Ud, Ud, Ud, Ud, Ud, Ud]) rfl rfl (does_fieldAddr (ev rfl) fa56_2) rfl ?_
  refine q_is (l' := [(.agg #[(.slice p27 A_a.shape.nodes.length q28), (Fl r3), (Fl r5), (Fl r7), (Fl r9), (Fl r11), (Fl r13), (Fl r15), (Iv A_a.cam.width), (Iv A_a.cam.height), (Fl r17), (Fl r19), (Fl r21), (Fl r23), (Fl r25), (Iv A_a.march.steps)]), (Pt b31 0), (Pt b38 0), (Pt b47 0), (Pt b31 0), (.agg #[(.slice p27 A_a.shape.nodes.length q28)]), (.agg #[(.slice p67 A_a.shape.nodes.length q68)]), (Pt b47 0), (Pt b31 1), (.agg #[(Fl r3), (Fl r5), (Fl r7), (Fl r9), (Fl r11), (Fl r13), (Fl r15), (Iv A_a.cam.width), (Iv A_a.cam.height)]), (.agg #[(Fl r77), (Fl r79), (Fl r81), (Fl r83), (Fl r85), (Fl r87), (Fl r89), (Iv A_a.cam.width), (Iv A_a.cam.height)]), (Pt b47 1), (Pt b31 10), (.agg #[(Fl r17), (Fl r19), (Fl r21)]), Ud, Ud, Ud, Ud, Ud, Ud, Ud]) rfl rfl (does_loadAgg (cs := [(Fl r17), (Fl r19), (Fl r21)]) (ev rfl) Try.isAgg50 Try.sizeOf50 (Cells.sub (Blk.cells ((((((hB33.ext E41).ext E50).ext E57).wr W70 (Nat.ne_of_lt n52)).ext E75).wr W92 (Nat.ne_of_lt n52))) 10 3) rfl) rfl ?_
  refine seqd rfl rfl (does_call (args := #[(.agg #[(Fl r17), (Fl r19), (Fl r21)])]) cal41 (evs rfl) (c_laws_toVector [(Fl r17), (Fl r19), (Fl r21)] A_a.light _ ⟨r17, r19, r21, rfl, h18, h20, h22⟩)) ?_; rintro _ w98 ⟨E97, ⟨_, rfl, ⟨r99, r101, r103, rfl, h100, h102, h104⟩⟩⟩
  have X105 := Ext.gr X95 E97
  show wpList _ _ _ _ (fr [(.agg #[(.slice p27 A_a.shape.nodes.length q28), (Fl r3), (Fl r5), (Fl r7), (Fl r9), (Fl r11), (Fl r13), (Fl r15), (Iv A_a.cam.width), (Iv A_a.cam.height), (Fl r17), (Fl r19), (Fl r21), (Fl r23), (Fl r25), (Iv A_a.march.steps)]), (Pt b31 0), (Pt b38 0), (Pt b47 0), (Pt b31 0), (.agg #[(.slice p27 A_a.shape.nodes.length q28)]), (.agg #[(.slice p67 A_a.shape.nodes.length q68)]), (Pt b47 0), (Pt b31 1), (.agg #[(Fl r3), (Fl r5), (Fl r7), (Fl r9), (Fl r11), (Fl r13), (Fl r15), (Iv A_a.cam.width), (Iv A_a.cam.height)]), (.agg #[(Fl r77), (Fl r79), (Fl r81), (Fl r83), (Fl r85), (Fl r87), (Fl r89), (Iv A_a.cam.width), (Iv A_a.cam.height)]), (Pt b47 1), (Pt b31 10), (.agg #[(Fl r17), (Fl r19), (Fl r21)]), (.agg #[(Fl r99), (Fl r101), (Fl r103)]), Ud, Ud, Ud, Ud, Ud, Ud]) _
  refine q_is (l' := [(.agg #[(.slice p27 A_a.shape.nodes.length q28), (Fl r3), (Fl r5), (Fl r7), (Fl r9), (Fl r11), (Fl r13), (Fl r15), (Iv A_a.cam.width), (Iv A_a.cam.height), (Fl r17), (Fl r19), (Fl r21), (Fl r23), (Fl r25), (Iv A_a.march.steps)]), (Pt b31 0), (Pt b38 0), (Pt b47 0), (Pt b31 0), (.agg #[(.slice p27 A_a.shape.nodes.length q28)]), (.agg #[(.slice p67 A_a.shape.nodes.length q68)]), (Pt b47 0), (Pt b31 1), (.agg #[(Fl r3), (Fl r5), (Fl r7), (Fl r9), (Fl r11), (Fl r13), (Fl r15), (Iv A_a.cam.width), (Iv A_a.cam.height)]), (.agg #[(Fl r77), (Fl r79), (Fl r81), (Fl r83), (Fl r85), (Fl r87), (Fl r89), (Iv A_a.cam.width), (Iv A_a.cam.height)]), (Pt b47 1), (Pt b31 10), (.agg #[(Fl r17), (Fl r19), (Fl r21)]), (.agg #[(Fl r99), (Fl r101), (Fl r103)]), (Pt b47 10), Ud, Ud, Ud, Ud, Ud]) rfl rfl (does_fieldAddr (ev rfl) fa63_2) rfl ?_
  refine seqn rfl rfl (does_store (n := 3) (cs := [(.slice p67 A_a.shape.nodes.length q68), (Fl r77), (Fl r79), (Fl r81), (Fl r83), (Fl r85), (Fl r87), (Fl r89), (Iv A_a.cam.width), (Iv A_a.cam.height), (Fl 0), (Fl 0), (Fl 0), (Fl 0), (Fl 0), (Iv 0)]) (u := (.agg #[(Fl r99), (Fl r101), (Fl r103)])) (ev rfl) (ev rfl) Try.sizeOf40 rfl (hB93.ext E97) (Nat.le_of_ble_eq_true rfl) rfl) ?_; rintro _ w108 ⟨rfl, W106, hB107⟩
  change Blk _ _ [(.slice p67 A_a.shape.nodes.length q68), (Fl r77), (Fl r79), (Fl r81), (Fl r83), (Fl r85), (Fl r87), (Fl r89), (Iv A_a.cam.width), (Iv A_a.cam.height), (Fl r99), (Fl r101), (Fl r103), (Fl 0), (Fl 0), (Iv 0)] at hB107
  have X109 := Below.wr X105 W106 g54
  refine wpList_nil (hK96 _ _ ?_)
  refine wp_seq_k fun K110 hK110 => ?_
  refine wp_region_lit ?_
  refine q_is (l' := [(.agg #[(.slice p27 A_a.shape.nodes.length q28), (Fl r3), (Fl r5), (Fl r7), (Fl r9), (Fl r11), (Fl r13), (Fl r15), (Iv A_a.cam.width), (Iv A_a.cam.height), (Fl r17), (Fl r19), (Fl r21), (Fl r23), (Fl r25), (Iv A_a.march.steps)]), (Pt b31 0), (Pt b38 0), (Pt b47 0), (Pt b31 0), (.agg #[(.slice p27 A_a.shape.nodes.length q28)]), (.agg #[(.slice p67 A_a.shape.nodes.length q68)]), (Pt b47 0), (Pt b31 1), (.agg #[(Fl r3), (Fl r5), (Fl r7), (Fl r9), (Fl r11), (Fl r13), (Fl r15), (Iv A_a.cam.width), (Iv A_a.cam.height)]), (.agg #[(Fl r77), (Fl r79), (Fl r81), (Fl r83), (Fl r85), (Fl r87), (Fl r89), (Iv A_a.cam.width), (Iv A_a.cam.height)]), (Pt b47 1), (Pt b31 10), (.agg #[(Fl r17), (Fl r19), (Fl r21)]), (.agg #[(Fl r99), (Fl r101), (Fl r103)]), (Pt b47 10), (Pt b31 13), Ud, Ud, Ud, Ud]) rfl rfl (does_fieldAddr (ev rfl) fa56_3) rfl ?_
  refine q_is (l' := [(.agg #[(.slice p27 A_a.shape.nodes.length q28), (Fl r3), (Fl r5), (Fl r7), (Fl r9), (Fl r11), (Fl r13), (Fl r15), (Iv A_a.cam.width), (Iv A_a.cam.height), (Fl r17), (Fl r19), (Fl r21), (Fl r23), (Fl r25), (Iv A_a.march.steps)]), (Pt b31 0), (Pt b38 0), (Pt b47 0), (Pt b31 0), (.agg #[(.slice p27 A_a.shape.nodes.length q28)]), (.agg #[(.slice p67 A_a.shape.nodes.length q68)]), (Pt b47 0), (Pt b31 1), (.agg #[(Fl r3), (Fl r5), (Fl r7), (Fl r9), (Fl r11), (Fl r13), (Fl r15), (Iv A_a.cam.width), (Iv A_a.cam.height)]), (.agg #[(Fl r77), (Fl r79), (Fl r81), (Fl r83), (Fl r85), (Fl r87), (Fl r89), (Iv A_a.cam.width), (Iv A_a.cam.height)]), (Pt b47 1), (Pt b31 10), (.agg #[(Fl r17), (Fl r19), (Fl r21)]), (.agg #[(Fl r99), (Fl r101), (Fl r103)]), (Pt b47 10), (Pt b31 13), (.agg #[(Fl r23), (Fl r25), (Iv A_a.march.steps)]), Ud, Ud, Ud]) rfl rfl (does_loadAgg (cs := [(Fl r23), (Fl r25), (Iv A_a.march.steps)]) (ev rfl) Try.isAgg54 Try.sizeOf54 (Cells.sub (Blk.cells ((((((((hB33.ext E41).ext E50).ext E57).wr W70 (Nat.ne_of_lt n52)).ext E75).wr W92 (Nat.ne_of_lt n52)).ext E97).wr W106 (Nat.ne_of_lt n52))) 13 3) rfl) rfl ?_
  refine seqd rfl rfl (does_call (args := #[(.agg #[(Fl r23), (Fl r25), (Iv A_a.march.steps)])]) cal42 (evs rfl) (c_laws_toMarch [(Fl r23), (Fl r25), (Iv A_a.march.steps)] A_a.march _ ⟨r23, r25, rfl, h24, h26⟩)) ?_; rintro _ w112 ⟨E111, ⟨_, rfl, ⟨r113, r115, rfl, h114, h116⟩⟩⟩
  have X117 := Ext.gr X109 E111
  show wpList _ _ _ _ (fr [(.agg #[(.slice p27 A_a.shape.nodes.length q28), (Fl r3), (Fl r5), (Fl r7), (Fl r9), (Fl r11), (Fl r13), (Fl r15), (Iv A_a.cam.width), (Iv A_a.cam.height), (Fl r17), (Fl r19), (Fl r21), (Fl r23), (Fl r25), (Iv A_a.march.steps)]), (Pt b31 0), (Pt b38 0), (Pt b47 0), (Pt b31 0), (.agg #[(.slice p27 A_a.shape.nodes.length q28)]), (.agg #[(.slice p67 A_a.shape.nodes.length q68)]), (Pt b47 0), (Pt b31 1), (.agg #[(Fl r3), (Fl r5), (Fl r7), (Fl r9), (Fl r11), (Fl r13), (Fl r15), (Iv A_a.cam.width), (Iv A_a.cam.height)]), (.agg #[(Fl r77), (Fl r79), (Fl r81), (Fl r83), (Fl r85), (Fl r87), (Fl r89), (Iv A_a.cam.width), (Iv A_a.cam.height)]), (Pt b47 1), (Pt b31 10), (.agg #[(Fl r17), (Fl r19), (Fl r21)]), (.agg #[(Fl r99), (Fl r101), (Fl r103)]), (Pt b47 10), (Pt b31 13), (.agg #[(Fl r23), (Fl r25), (Iv A_a.march.steps)]), (.agg #[(Fl r113), (Fl r115), (Iv A_a.march.steps)]), Ud, Ud]) _
  refine q_is (l' := [(.agg #[(.slice p27 A_a.shape.nodes.length q28), (Fl r3), (Fl r5), (Fl r7), (Fl r9), (Fl r11), (Fl r13), (Fl r15), (Iv A_a.cam.width), (Iv A_a.cam.height), (Fl r17), (Fl r19), (Fl r21), (Fl r23), (Fl r25), (Iv A_a.march.steps)]), (Pt b31 0), (Pt b38 0), (Pt b47 0), (Pt b31 0), (.agg #[(.slice p27 A_a.shape.nodes.length q28)]), (.agg #[(.slice p67 A_a.shape.nodes.length q68)]), (Pt b47 0), (Pt b31 1), (.agg #[(Fl r3), (Fl r5), (Fl r7), (Fl r9), (Fl r11), (Fl r13), (Fl r15), (Iv A_a.cam.width), (Iv A_a.cam.height)]), (.agg #[(Fl r77), (Fl r79), (Fl r81), (Fl r83), (Fl r85), (Fl r87), (Fl r89), (Iv A_a.cam.width), (Iv A_a.cam.height)]), (Pt b47 1), (Pt b31 10), (.agg #[(Fl r17), (Fl r19), (Fl r21)]), (.agg #[(Fl r99), (Fl r101), (Fl r103)]), (Pt b47 10), (Pt b31 13), (.agg #[(Fl r23), (Fl r25), (Iv A_a.march.steps)]), (.agg #[(Fl r113), (Fl r115), (Iv A_a.march.steps)]), (Pt b47 13), Ud]) rfl rfl (does_fieldAddr (ev rfl) fa63_3) rfl ?_
  refine seqn rfl rfl (does_store (n := 3) (cs := [(.slice p67 A_a.shape.nodes.length q68), (Fl r77), (Fl r79), (Fl r81), (Fl r83), (Fl r85), (Fl r87), (Fl r89), (Iv A_a.cam.width), (Iv A_a.cam.height), (Fl r99), (Fl r101), (Fl r103), (Fl 0), (Fl 0), (Iv 0)]) (u := (.agg #[(Fl r113), (Fl r115), (Iv A_a.march.steps)])) (ev rfl) (ev rfl) Try.sizeOf61 rfl (hB107.ext E111) (Nat.le_of_ble_eq_true rfl) rfl) ?_; rintro _ w120 ⟨rfl, W118, hB119⟩
  change Blk _ _ [(.slice p67 A_a.shape.nodes.length q68), (Fl r77), (Fl r79), (Fl r81), (Fl r83), (Fl r85), (Fl r87), (Fl r89), (Iv A_a.cam.width), (Iv A_a.cam.height), (Fl r99), (Fl r101), (Fl r103), (Fl r113), (Fl r115), (Iv A_a.march.steps)] at hB119
  have X121 := Below.wr X117 W118 g54
  refine wpList_nil (hK110 _ _ ?_)
  refine wp_seq_k fun K122 hK122 => ?_
  refine wp_region_lit ?_
  refine q_is (l' := [(.agg #[(.slice p27 A_a.shape.nodes.length q28), (Fl r3), (Fl r5), (Fl r7), (Fl r9), (Fl r11), (Fl r13), (Fl r15), (Iv A_a.cam.width), (Iv A_a.cam.height), (Fl r17), (Fl r19), (Fl r21), (Fl r23), (Fl r25), (Iv A_a.march.steps)]), (Pt b31 0), (Pt b38 0), (Pt b47 0), (Pt b31 0), (.agg #[(.slice p27 A_a.shape.nodes.length q28)]), (.agg #[(.slice p67 A_a.shape.nodes.length q68)]), (Pt b47 0), (Pt b31 1), (.agg #[(Fl r3), (Fl r5), (Fl r7), (Fl r9), (Fl r11), (Fl r13), (Fl r15), (Iv A_a.cam.width), (Iv A_a.cam.height)]), (.agg #[(Fl r77), (Fl r79), (Fl r81), (Fl r83), (Fl r85), (Fl r87), (Fl r89), (Iv A_a.cam.width), (Iv A_a.cam.height)]), (Pt b47 1), (Pt b31 10), (.agg #[(Fl r17), (Fl r19), (Fl r21)]), (.agg #[(Fl r99), (Fl r101), (Fl r103)]), (Pt b47 10), (Pt b31 13), (.agg #[(Fl r23), (Fl r25), (Iv A_a.march.steps)]), (.agg #[(Fl r113), (Fl r115), (Iv A_a.march.steps)]), (Pt b47 13), (.agg #[(.slice p67 A_a.shape.nodes.length q68), (Fl r77), (Fl r79), (Fl r81), (Fl r83), (Fl r85), (Fl r87), (Fl r89), (Iv A_a.cam.width), (Iv A_a.cam.height), (Fl r99), (Fl r101), (Fl r103), (Fl r113), (Fl r115), (Iv A_a.march.steps)])]) rfl rfl (does_loadAgg (cs := [(.slice p67 A_a.shape.nodes.length q68), (Fl r77), (Fl r79), (Fl r81), (Fl r83), (Fl r85), (Fl r87), (Fl r89), (Iv A_a.cam.width), (Iv A_a.cam.height), (Fl r99), (Fl r101), (Fl r103), (Fl r113), (Fl r115), (Iv A_a.march.steps)]) (ev rfl) Try.isAgg63 Try.sizeOf63 (Blk.cells hB119) rfl) rfl ?_
  refine seqn rfl rfl (does_store (n := 16) (cs := [(.slice none 0 0), (Fl 0), (Fl 0), (Fl 0), (Fl 0), (Fl 0), (Fl 0), (Fl 0), (Iv 0), (Iv 0), (Fl 0), (Fl 0), (Fl 0), (Fl 0), (Fl 0), (Iv 0)]) (u := (.agg #[(.slice p67 A_a.shape.nodes.length q68), (Fl r77), (Fl r79), (Fl r81), (Fl r83), (Fl r85), (Fl r87), (Fl r89), (Iv A_a.cam.width), (Iv A_a.cam.height), (Fl r99), (Fl r101), (Fl r103), (Fl r113), (Fl r115), (Iv A_a.march.steps)])) (ev rfl) (ev rfl) Try.sizeOf63 rfl (((((((((hB40.ext E50).ext E57).wr W70 (Nat.ne_of_lt n53)).ext E75).wr W92 (Nat.ne_of_lt n53)).ext E97).wr W106 (Nat.ne_of_lt n53)).ext E111).wr W118 (Nat.ne_of_lt n53)) (Nat.le_of_ble_eq_true rfl) rfl) ?_; rintro _ w125 ⟨rfl, W123, hB124⟩
  change Blk _ _ [(.slice p67 A_a.shape.nodes.length q68), (Fl r77), (Fl r79), (Fl r81), (Fl r83), (Fl r85), (Fl r87), (Fl r89), (Iv A_a.cam.width), (Iv A_a.cam.height), (Fl r99), (Fl r101), (Fl r103), (Fl r113), (Fl r115), (Iv A_a.march.steps)] at hB124
  have X126 := Below.wr X121 W123 g44
  refine wpList_nil (hK122 _ _ ?_)
  refine wp_ret ?_
  refine ret_val (v := (.agg #[(.slice p67 A_a.shape.nodes.length q68), (Fl r77), (Fl r79), (Fl r81), (Fl r83), (Fl r85), (Fl r87), (Fl r89), (Iv A_a.cam.width), (Iv A_a.cam.height), (Fl r99), (Fl r101), (Fl r103), (Fl r113), (Fl r115), (Iv A_a.march.steps)])) (res_C rfl (slot rfl) (run_loadAgg (cs := [(.slice p67 A_a.shape.nodes.length q68), (Fl r77), (Fl r79), (Fl r81), (Fl r83), (Fl r85), (Fl r87), (Fl r89), (Iv A_a.cam.width), (Iv A_a.cam.height), (Fl r99), (Fl r101), (Fl r103), (Fl r113), (Fl r115), (Iv A_a.march.steps)]) Try.isAgg63 Try.sizeOf63 (Blk.cells hB124) rfl)) X126 ?_
  exact ⟨[(.slice p67 A_a.shape.nodes.length q68), (Fl r77), (Fl r79), (Fl r81), (Fl r83), (Fl r85), (Fl r87), (Fl r89), (Iv A_a.cam.width), (Iv A_a.cam.height), (Fl r99), (Fl r101), (Fl r103), (Fl r113), (Fl r115), (Iv A_a.march.steps)], rfl, fun u hu => ⟨r77, r79, r81, r83, r85, r87, r89, r99, r101, r103, r113, r115, (.slice p67 A_a.shape.nodes.length q68), rfl, h78, h80, h82, h84, h86, h88, h90, h100, h102, h104, h114, h116, ((Hang.to hh69 (((((((((Same.refl _ _).wr W70 (.inl n64)).ext E75).wr W92 (.inl n64)).ext E97).wr W106 (.inl n64)).ext E111).wr W118 (.inl n64)).wr W123 (.inl n63))).le (Below.size (Ext.gr (Ext.gr (Ext.gr (Ext.refl _) E34) E41) E50))) u hu⟩⟩

/- impl.in -/
theorem c_impl_in (n : Int) (low : Int) (high : Int) (w : World) : Gives Try.prog 55 #[(Iv n), (Iv low), (Iv high)] w (fun v w' => v = (Bo (inI n low high))) := by
  refine enter [(Iv n), (Iv low), (Iv high), Ud, Ud, Ud, Ud, Ud, Ud, Ud, Ud, Ud, Ud, Ud, Ud] Try.func55 rfl Try.ntmps55 rfl ?_
  refine wp_seq_k fun K1 hK1 => ?_
  refine wp_region_lit ?_
  refine q_is (l' := [(Iv n), (Iv low), (Iv high), Ud, Ud, Ud, (Bo false), Ud, Ud, Ud, Ud, Ud, Ud, Ud, Ud]) rfl rfl (does_assign (u := (Bo false)) (ev rfl)) rfl ?_
  refine wpList_nil (hK1 _ _ ?_)
  refine wp_seq_k fun K2 hK2 => ?_
  obtain ⟨β1, hβ1⟩ : ∃ b : Bool, b = ((icmp .geq n low) && (icmp .leq n high)) := ⟨_, rfl⟩
  refine region_text (
    [Fact.pure [] (fun v => v = (Iv n)),
    Fact.pure [] (fun v => v = (Iv low)),
    Fact.pure [7, 8] (fun v => v = (Bo (icmp .geq n low))),
    Fact.pure [9] (fun v => v = (Bo (icmp .geq n low))),
    Fact.pure [10] (fun v => (icmp .geq n low) = true → v = (Iv n)),
    Fact.pure [10] (fun v => (icmp .geq n low) = true → v = (Iv high)),
    Fact.pure [11, 12, 10] (fun v => (icmp .geq n low) = true → v = (Bo (icmp .leq n high))),
    Fact.pure [10, 13] (fun v => v = (Bo β1))]) (by simp [Fact.pure, Fact.mem]) ?_
  refine RW_d (fun v3 => [(Iv n), (Iv low), (Iv high), Ud, Ud, Ud, (Bo false), v3, Ud, Ud, Ud, Ud, Ud, Ud, Ud]) rfl (fun _ => rfl) (fun u hu hF => ?_) (fun v3 => ?_)
  · clear hF
    refine doesG_un rfl ?_
    refine (does_move (u := (Iv n)) (ev rfl)).mono ?_; rintro _ _ ⟨rfl, rfl⟩
    exact ⟨rfl, Ext.refl _⟩
  refine RW_d (fun v4 => [(Iv n), (Iv low), (Iv high), Ud, Ud, Ud, (Bo false), v3, v4, Ud, Ud, Ud, Ud, Ud, Ud]) rfl (fun _ => rfl) (fun u hu hF => ?_) (fun v4 => ?_)
  · clear hF
    refine doesG_un rfl ?_
    refine (does_move (u := (Iv low)) (ev rfl)).mono ?_; rintro _ _ ⟨rfl, rfl⟩
    exact ⟨rfl, Ext.refl _⟩
  refine RW_d (fun v5 => [(Iv n), (Iv low), (Iv high), Ud, Ud, Ud, (Bo false), v3, v4, v5, Ud, Ud, Ud, Ud, Ud]) rfl (fun _ => rfl) (fun u hu hF => ?_) (fun v5 => ?_)
  · have h7_ : v3 = (Iv n) := hF.1
    have h8_ : v4 = (Iv low) := hF.2.1
    clear hF
    refine doesG_un rfl ?_
    obtain rfl := h7_
    obtain rfl := h8_
    refine (does_icmp (p := n) (q := low) (.inr (.inr (.inr (.inr (.inr rfl))))) (ev rfl) (ev rfl)).mono ?_; rintro _ _ ⟨rfl, rfl⟩
    exact ⟨rfl, Ext.refl _⟩
  refine RW_d (fun v6 => [(Iv n), (Iv low), (Iv high), Ud, Ud, Ud, (Bo false), v3, v4, v5, v6, Ud, Ud, Ud, Ud]) rfl (fun _ => rfl) (fun u hu hF => ?_) (fun v6 => ?_)
  · have h9_ : v5 = (Bo (icmp .geq n low)) := hF.1
    clear hF
    refine doesG_un rfl ?_
    obtain rfl := h9_
    refine (does_move (u := (Bo (icmp .geq n low))) (ev rfl)).mono ?_; rintro _ _ ⟨rfl, rfl⟩
    exact ⟨rfl, Ext.refl _⟩
  refine RW_d (fun v7 => [(Iv n), (Iv low), (Iv high), Ud, Ud, Ud, (Bo false), v3, v4, v5, v6, v7, Ud, Ud, Ud]) rfl (fun _ => rfl) (fun u hu hF => ?_) (fun v7 => ?_)
  · have h10_ : v6 = (Bo (icmp .geq n low)) := hF.1
    clear hF
    obtain rfl := h10_
    refine doesG_g (b := (icmp .geq n low)) rfl (yld rfl rfl) (fun hg1 => ?_) (fun hc => ⟨fun hg1 => absurd hg1 hc, Ext.refl _⟩)
    refine (does_move (u := (Iv n)) (ev rfl)).mono ?_; rintro _ _ ⟨rfl, rfl⟩
    exact ⟨fun _ => rfl, Ext.refl _⟩
  refine RW_d (fun v8 => [(Iv n), (Iv low), (Iv high), Ud, Ud, Ud, (Bo false), v3, v4, v5, v6, v7, v8, Ud, Ud]) rfl (fun _ => rfl) (fun u hu hF => ?_) (fun v8 => ?_)
  · have h10_ : v6 = (Bo (icmp .geq n low)) := hF.1
    clear hF
    obtain rfl := h10_
    refine doesG_g (b := (icmp .geq n low)) rfl (yld rfl rfl) (fun hg1 => ?_) (fun hc => ⟨fun hg1 => absurd hg1 hc, Ext.refl _⟩)
    refine (does_move (u := (Iv high)) (ev rfl)).mono ?_; rintro _ _ ⟨rfl, rfl⟩
    exact ⟨fun _ => rfl, Ext.refl _⟩
  refine RW_d (fun v9 => [(Iv n), (Iv low), (Iv high), Ud, Ud, Ud, (Bo false), v3, v4, v5, v6, v7, v8, v9, Ud]) rfl (fun _ => rfl) (fun u hu hF => ?_) (fun v9 => ?_)
  · have h11_ : (icmp .geq n low) = true → v7 = (Iv n) := hF.1
    have h12_ : (icmp .geq n low) = true → v8 = (Iv high) := hF.2.1
    have h10_ : v6 = (Bo (icmp .geq n low)) := hF.2.2.1
    clear hF
    obtain rfl := h10_
    refine doesG_g (b := (icmp .geq n low)) rfl (yld rfl rfl) (fun hg1 => ?_) (fun hc => ⟨fun hg1 => absurd hg1 hc, Ext.refl _⟩)
    obtain rfl := h11_ hg1
    obtain rfl := h12_ hg1
    refine (does_icmp (p := n) (q := high) (.inr (.inr (.inr (.inl rfl)))) (ev rfl) (ev rfl)).mono ?_; rintro _ _ ⟨rfl, rfl⟩
    exact ⟨fun _ => rfl, Ext.refl _⟩
  refine RW_d (fun v10 => [(Iv n), (Iv low), (Iv high), Ud, Ud, Ud, (Bo false), v3, v4, v5, v6, v7, v8, v9, v10]) rfl (fun _ => rfl) (fun u hu hF => ?_) (fun v10 => ?_)
  · have h10_ : v6 = (Bo (icmp .geq n low)) := hF.1
    have h13_ : (icmp .geq n low) = true → v9 = (Bo (icmp .leq n high)) := hF.2.1
    clear hF
    refine doesG_un rfl ?_
    skip
    obtain rfl := h10_
    refine (does_pick (b := (icmp .geq n low)) (u := v9) (v := (Bo false)) (ev rfl) (ev rfl) (ev rfl)).mono ?_; rintro _ _ ⟨rfl, rfl⟩; refine ⟨?_, Ext.refl _⟩; rw [hβ1]; skip
    cases hbb : (icmp .geq n low)
    all_goals first | (show _ = _; simp only [↓reduceIte, Bool.true_and, Bool.false_and, Bool.true_or, Bool.false_or, Bool.false_eq_true]; done) | (have e_ := h13_ hbb; subst e_; show _ = _; simp only [↓reduceIte, Bool.true_and, Bool.false_and, Bool.true_or, Bool.false_or, Bool.false_eq_true]; done) | rfl | (have e_ := h13_ hbb; subst e_; rfl) | (simp [hbb] at h13_ ⊢; first | done | rfl | (subst h13_; rfl) | simp_all) | (simp [hbb] at h13_ ⊢; done)
  refine RW_fin ?_; intro w11 E12 hP13
  obtain ⟨⟨⟨⟨⟨⟨⟨⟨-, -⟩, -⟩, -⟩, -⟩, -⟩, -⟩, -⟩, q14⟩ := hP13
  have X15 := Ext.gr (Ext.refl w) E12
  have q14 : v10 = (Bo β1) := q14
  obtain rfl := q14
  show wpList _ _ _ _ (fr [(Iv n), (Iv low), (Iv high), Ud, Ud, Ud, (Bo false), v3, v4, v5, v6, v7, v8, v9, (Bo β1)]) _
  refine q_is (l' := [(Iv n), (Iv low), (Iv high), Ud, Ud, Ud, (Bo β1), v3, v4, v5, v6, v7, v8, v9, (Bo β1)]) rfl rfl (does_assign (u := (Bo β1)) (ev rfl)) rfl ?_
  refine wpList_nil (hK2 _ _ ?_)
  refine wp_ret ?_
  refine ret_val (v := (Bo β1)) (res_T rfl (slot rfl)) X15 ?_
  have x16 : (inI n low high) = β1 := by first | with_reducible rfl | (simp only [inI, hβ1]; done) | (simp [inI, hβ1]; done) | rfl
  exact (by first | with_reducible rfl | rw [x16] | rfl)

end Go.Proofs.Ytiagimgdjngnfaa
