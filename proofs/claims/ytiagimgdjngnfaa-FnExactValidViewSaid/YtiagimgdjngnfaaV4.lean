/- contracts of functions, each walked once -/
import Derived.Test.YtiagimgdjngnfaaV3
namespace Go.Proofs.Ytiagimgdjngnfaa
open Go Go.RowKit
set_option maxRecDepth 100000
set_option maxHeartbeats 3200000
set_option linter.unusedVariables false
set_option linter.unusedSimpArgs false

/- impl.UnitOf -/
theorem c_impl_UnitOf (v : List Value) (A_v : V3) (w : World) (hv_v : RV3 w A_v v) : Gives Try.prog 97 #[(.agg v.toArray)] w (fun v w' => ∃ cs_1 : List Value, v = (.agg cs_1.toArray) ∧ RV3 w (unitF A_v) cs_1) := by
  obtain ⟨r1, r3, r5, rfl, h2, h4, h6⟩ := hv_v
  refine enter [(.agg #[(Fl r1), (Fl r3), (Fl r5)]), Ud, Ud, Ud, Ud, Ud, Ud, Ud, Ud, Ud, Ud, Ud, Ud, Ud, Ud, Ud, Ud, Ud, Ud, Ud, Ud, Ud] Try.func97 rfl Try.ntmps97 rfl ?_
  refine wp_seq_k fun K7 hK7 => ?_
  refine wp_region_lit ?_
  refine seqd rfl rfl (does_box (u := (.agg #[(Fl r1), (Fl r3), (Fl r5)])) (ev rfl)) ?_; rintro _ w12 ⟨b8, rfl, hb9, hB10, E11⟩
  have g13 : w.heap.size ≤ b8 := Nat.le_trans (Below.size (Ext.refl w)) hb9
  change Blk _ _ [(Fl r1), (Fl r3), (Fl r5)] at hB10
  have X14 := Ext.gr (Ext.refl w) E11
  show wpList _ _ _ _ (fr [(.agg #[(Fl r1), (Fl r3), (Fl r5)]), (Pt b8 0), Ud, Ud, Ud, Ud, Ud, Ud, Ud, Ud, Ud, Ud, Ud, Ud, Ud, Ud, Ud, Ud, Ud, Ud, Ud, Ud]) _
  refine seqd rfl rfl (does_alloc z40) ?_; rintro _ w19 ⟨b15, rfl, hb16, hB17, E18⟩
  have n20 : b8 < b15 := Nat.lt_of_lt_of_le (Blk.lt hB10) hb16
  have g21 : w.heap.size ≤ b15 := Nat.le_trans (Below.size X14) hb16
  change Blk _ _ [(Fl 0), (Fl 0), (Fl 0)] at hB17
  have X22 := Ext.gr X14 E18
  show wpList _ _ _ _ (fr [(.agg #[(Fl r1), (Fl r3), (Fl r5)]), (Pt b8 0), (Pt b15 0), Ud, Ud, Ud, Ud, Ud, Ud, Ud, Ud, Ud, Ud, Ud, Ud, Ud, Ud, Ud, Ud, Ud, Ud, Ud]) _
  refine wpList_nil (hK7 _ _ ?_)
  refine wp_seq_k fun K23 hK23 => ?_
  refine wp_region_lit ?_
  refine q_is (l' := [(.agg #[(Fl r1), (Fl r3), (Fl r5)]), (Pt b8 0), (Pt b15 0), Ud, Ud, (.agg #[(Fl r1), (Fl r3), (Fl r5)]), Ud, Ud, Ud, Ud, Ud, Ud, Ud, Ud, Ud, Ud, Ud, Ud, Ud, Ud, Ud, Ud]) rfl rfl (does_loadAgg (cs := [(Fl r1), (Fl r3), (Fl r5)]) (ev rfl) Try.isAgg40 Try.sizeOf40 (Blk.cells (hB10.ext E18)) rfl) rfl ?_
  refine seqd rfl rfl (does_call (args := #[(.agg #[(Fl r1), (Fl r3), (Fl r5)])]) cal112 (evs rfl) (c_impl_LongOf [(Fl r1), (Fl r3), (Fl r5)] A_v _ ⟨r1, r3, r5, rfl, h2, h4, h6⟩)) ?_; rintro _ w25 ⟨E24, ⟨r26, rfl, h27⟩⟩
  have X28 := Ext.gr X22 E24
  show wpList _ _ _ _ (fr [(.agg #[(Fl r1), (Fl r3), (Fl r5)]), (Pt b8 0), (Pt b15 0), Ud, Ud, (.agg #[(Fl r1), (Fl r3), (Fl r5)]), (Fl r26), Ud, Ud, Ud, Ud, Ud, Ud, Ud, Ud, Ud, Ud, Ud, Ud, Ud, Ud, Ud]) _
  refine q_is (l' := [(.agg #[(Fl r1), (Fl r3), (Fl r5)]), (Pt b8 0), (Pt b15 0), (Fl r26), Ud, (.agg #[(Fl r1), (Fl r3), (Fl r5)]), (Fl r26), Ud, Ud, Ud, Ud, Ud, Ud, Ud, Ud, Ud, Ud, Ud, Ud, Ud, Ud, Ud]) rfl rfl (does_assign (u := (Fl r26)) (ev rfl)) rfl ?_
  refine wpList_nil (hK23 _ _ ?_)
  refine wp_seq_k fun K29 hK29 => ?_
  refine wp_region_lit ?_
  refine q_is (l' := [(.agg #[(Fl r1), (Fl r3), (Fl r5)]), (Pt b8 0), (Pt b15 0), (Fl r26), Ud, (.agg #[(Fl r1), (Fl r3), (Fl r5)]), (Fl r26), (Fl r26), Ud, Ud, Ud, Ud, Ud, Ud, Ud, Ud, Ud, Ud, Ud, Ud, Ud, Ud]) rfl rfl (does_move (u := (Fl r26)) (ev rfl)) rfl ?_
  refine seqd rfl rfl (does_float (.inr (.inr (.inr rfl))) (ev rfl) (ev rfl)) ?_; rintro _ w33 ⟨r30, rfl, h31, E32⟩
  have X34 := Ext.gr X28 E32
  show wpList _ _ _ _ (fr [(.agg #[(Fl r1), (Fl r3), (Fl r5)]), (Pt b8 0), (Pt b15 0), (Fl r26), Ud, (.agg #[(Fl r1), (Fl r3), (Fl r5)]), (Fl r26), (Fl r26), (Fl r30), Ud, Ud, Ud, Ud, Ud, Ud, Ud, Ud, Ud, Ud, Ud, Ud, Ud]) _
  refine q_is (l' := [(.agg #[(Fl r1), (Fl r3), (Fl r5)]), (Pt b8 0), (Pt b15 0), (Fl r26), (Fl r30), (.agg #[(Fl r1), (Fl r3), (Fl r5)]), (Fl r26), (Fl r26), (Fl r30), Ud, Ud, Ud, Ud, Ud, Ud, Ud, Ud, Ud, Ud, Ud, Ud, Ud]) rfl rfl (does_assign (u := (Fl r30)) (ev rfl)) rfl ?_
  refine wpList_nil (hK29 _ _ ?_)
  refine wp_seq_k fun K35 hK35 => ?_
  refine wp_seq_k fun K36 hK36 => ?_
  obtain ⟨β1, hβ1⟩ : ∃ b : Bool, b = (fcmp .eql (ford .f32 (cf .f32 r26) (cf .f32 0))) := ⟨_, rfl⟩
  obtain ⟨β2, hβ2⟩ : ∃ b : Bool, b = (!([(cf .f32 r26), (cf .f32 r30)]).any (fun x => !finF x)) := ⟨_, rfl⟩
  refine region_text (
    [Fact.pure [] (fun v => v = (Fl r26)),
    Fact.pure [9] (fun v => v = (Bo β1)),
    Fact.pure [10] (fun v => v = (Bo β1)),
    Fact.pure [11] (fun v => β1 = false → v = (Fl r26)),
    Fact.pure [11] (fun v => β1 = false → v = (Fl r30)),
    Fact.mem [12, 13, 11] (fun v w' => β1 = false → ∃ b : Nat, v = .slice (some ⟨b, 0, none⟩) 2 2 ∧ w33.heap.size ≤ b ∧ Blk w' b [(Fl r26), (Fl r30)]) (by intro v w1 w2 hx h hg1; obtain ⟨b, rfl, hb, hB⟩ := h hg1; exact ⟨b, rfl, hb, (hB.ext hx)⟩),
    Fact.pure [14, 11] (fun v => β1 = false → v = (Bo β2)),
    Fact.pure [15, 11] (fun v => β1 = false → v = (Bo (!β2))),
    Fact.pure [11, 16] (fun v => v = (Bo (β1 || (!β2))))]) (by simp [Fact.pure, Fact.mem]) ?_
  refine RW_d (fun v37 => [(.agg #[(Fl r1), (Fl r3), (Fl r5)]), (Pt b8 0), (Pt b15 0), (Fl r26), (Fl r30), (.agg #[(Fl r1), (Fl r3), (Fl r5)]), (Fl r26), (Fl r26), (Fl r30), v37, Ud, Ud, Ud, Ud, Ud, Ud, Ud, Ud, Ud, Ud, Ud, Ud]) rfl (fun _ => rfl) (fun u hu hF => ?_) (fun v37 => ?_)
  · clear hF
    refine doesG_un rfl ?_
    refine (does_move (u := (Fl r26)) (ev rfl)).mono ?_; rintro _ _ ⟨rfl, rfl⟩
    exact ⟨rfl, Ext.refl _⟩
  refine RW_d (fun v38 => [(.agg #[(Fl r1), (Fl r3), (Fl r5)]), (Pt b8 0), (Pt b15 0), (Fl r26), (Fl r30), (.agg #[(Fl r1), (Fl r3), (Fl r5)]), (Fl r26), (Fl r26), (Fl r30), v37, v38, Ud, Ud, Ud, Ud, Ud, Ud, Ud, Ud, Ud, Ud, Ud]) rfl (fun _ => rfl) (fun u hu hF => ?_) (fun v38 => ?_)
  · have h9_ : v37 = (Fl r26) := hF.1
    clear hF
    refine doesG_un rfl ?_
    obtain rfl := h9_
    refine (does_fcmp (.inl rfl) (ev rfl) (ev rfl)).mono ?_; rintro _ _ ⟨rfl, rfl⟩
    exact ⟨(by first | rfl | (show _ = _; simp only [hβ1]; done) | (show _ = _; simp only [hβ1]; rfl)), Ext.refl _⟩
  refine RW_d (fun v39 => [(.agg #[(Fl r1), (Fl r3), (Fl r5)]), (Pt b8 0), (Pt b15 0), (Fl r26), (Fl r30), (.agg #[(Fl r1), (Fl r3), (Fl r5)]), (Fl r26), (Fl r26), (Fl r30), v37, v38, v39, Ud, Ud, Ud, Ud, Ud, Ud, Ud, Ud, Ud, Ud]) rfl (fun _ => rfl) (fun u hu hF => ?_) (fun v39 => ?_)
  · have h10_ : v38 = (Bo β1) := hF.1
    clear hF
    refine doesG_un rfl ?_
    obtain rfl := h10_
    refine (does_move (u := (Bo β1)) (ev rfl)).mono ?_; rintro _ _ ⟨rfl, rfl⟩
    exact ⟨rfl, Ext.refl _⟩
  refine RW_d (fun v40 => [(.agg #[(Fl r1), (Fl r3), (Fl r5)]), (Pt b8 0), (Pt b15 0), (Fl r26), (Fl r30), (.agg #[(Fl r1), (Fl r3), (Fl r5)]), (Fl r26), (Fl r26), (Fl r30), v37, v38, v39, v40, Ud, Ud, Ud, Ud, Ud, Ud, Ud, Ud, Ud]) rfl (fun _ => rfl) (fun u hu hF => ?_) (fun v40 => ?_)
  · have h11_ : v39 = (Bo β1) := hF.1
    clear hF
    obtain rfl := h11_
    refine doesG_g (b := β1) rfl (yld rfl rfl) (fun hg1 => ?_) (fun hc => ⟨fun hg1 => absurd hg1 hc, Ext.refl _⟩)
    refine (does_move (u := (Fl r26)) (ev rfl)).mono ?_; rintro _ _ ⟨rfl, rfl⟩
    exact ⟨fun _ => rfl, Ext.refl _⟩
  refine RW_d (fun v41 => [(.agg #[(Fl r1), (Fl r3), (Fl r5)]), (Pt b8 0), (Pt b15 0), (Fl r26), (Fl r30), (.agg #[(Fl r1), (Fl r3), (Fl r5)]), (Fl r26), (Fl r26), (Fl r30), v37, v38, v39, v40, v41, Ud, Ud, Ud, Ud, Ud, Ud, Ud, Ud]) rfl (fun _ => rfl) (fun u hu hF => ?_) (fun v41 => ?_)
  · have h11_ : v39 = (Bo β1) := hF.1
    clear hF
    obtain rfl := h11_
    refine doesG_g (b := β1) rfl (yld rfl rfl) (fun hg1 => ?_) (fun hc => ⟨fun hg1 => absurd hg1 hc, Ext.refl _⟩)
    refine (does_move (u := (Fl r30)) (ev rfl)).mono ?_; rintro _ _ ⟨rfl, rfl⟩
    exact ⟨fun _ => rfl, Ext.refl _⟩
  refine RW_d (fun v42 => [(.agg #[(Fl r1), (Fl r3), (Fl r5)]), (Pt b8 0), (Pt b15 0), (Fl r26), (Fl r30), (.agg #[(Fl r1), (Fl r3), (Fl r5)]), (Fl r26), (Fl r26), (Fl r30), v37, v38, v39, v40, v41, v42, Ud, Ud, Ud, Ud, Ud, Ud, Ud]) rfl (fun _ => rfl) (fun u hu hF => ?_) (fun v42 => ?_)
  · have h12_ : β1 = false → v40 = (Fl r26) := hF.1
    have h13_ : β1 = false → v41 = (Fl r30) := hF.2.1
    have h11_ : v39 = (Bo β1) := hF.2.2.1
    clear hF
    obtain rfl := h11_
    refine doesG_g (b := β1) rfl (yld rfl rfl) (fun hg1 => ?_) (fun hc => ⟨fun hg1 => absurd hg1 hc, Ext.refl _⟩)
    obtain rfl := h12_ hg1
    obtain rfl := h13_ hg1
    refine (does_buildSlice (e := 38) (parts' := [(0, (Fl r26)), (1, (Fl r30))]) (cells := [(Fl r26), (Fl r30)]) (evp rfl) (fun _ => by kernel_rfl)).mono ?_; rintro _ _ ⟨b, rfl, hb, hB, hx⟩
    exact ⟨fun _ => ⟨b, rfl, Nat.le_trans (Below.size hu) hb, hB⟩, hx⟩
  refine RW_d (fun v43 => [(.agg #[(Fl r1), (Fl r3), (Fl r5)]), (Pt b8 0), (Pt b15 0), (Fl r26), (Fl r30), (.agg #[(Fl r1), (Fl r3), (Fl r5)]), (Fl r26), (Fl r26), (Fl r30), v37, v38, v39, v40, v41, v42, v43, Ud, Ud, Ud, Ud, Ud, Ud]) rfl (fun _ => rfl) (fun u hu hF => ?_) (fun v43 => ?_)
  · have h14_ : β1 = false → ∃ b : Nat, v42 = .slice (some ⟨b, 0, none⟩) 2 2 ∧ w33.heap.size ≤ b ∧ Blk u b [(Fl r26), (Fl r30)] := hF.1
    have h11_ : v39 = (Bo β1) := hF.2.1
    clear hF
    obtain rfl := h11_
    refine doesG_g (b := β1) rfl (yld rfl rfl) (fun hg1 => ?_) (fun hc => ⟨fun hg1 => absurd hg1 hc, Ext.refl _⟩)
    obtain ⟨b14_, rfl, hb14_, hB14_⟩ := h14_ hg1
    refine (does_call (args := #[(.slice (some ⟨b14_, 0, none⟩) 2 2)]) cal79 (evs rfl) (c_impl_finite (.slice (some ⟨b14_, 0, none⟩) 2 2) [(cf .f32 r26), (cf .f32 r30)] _ (Sl_lit2 hB14_ ⟨_, rfl, rfl⟩ ⟨_, rfl, rfl⟩))).mono ?_; rintro v u' ⟨hx, hv⟩
    exact ⟨fun _ => hv.trans (by simp only [hβ2]), hx⟩
  refine RW_d (fun v44 => [(.agg #[(Fl r1), (Fl r3), (Fl r5)]), (Pt b8 0), (Pt b15 0), (Fl r26), (Fl r30), (.agg #[(Fl r1), (Fl r3), (Fl r5)]), (Fl r26), (Fl r26), (Fl r30), v37, v38, v39, v40, v41, v42, v43, v44, Ud, Ud, Ud, Ud, Ud]) rfl (fun _ => rfl) (fun u hu hF => ?_) (fun v44 => ?_)
  · have h15_ : β1 = false → v43 = (Bo β2) := hF.1
    have h11_ : v39 = (Bo β1) := hF.2.1
    clear hF
    obtain rfl := h11_
    refine doesG_g (b := β1) rfl (yld rfl rfl) (fun hg1 => ?_) (fun hc => ⟨fun hg1 => absurd hg1 hc, Ext.refl _⟩)
    obtain rfl := h15_ hg1
    refine (does_not (ev rfl)).mono ?_; rintro _ _ ⟨rfl, rfl⟩
    exact ⟨fun _ => rfl, Ext.refl _⟩
  refine RW_d (fun v45 => [(.agg #[(Fl r1), (Fl r3), (Fl r5)]), (Pt b8 0), (Pt b15 0), (Fl r26), (Fl r30), (.agg #[(Fl r1), (Fl r3), (Fl r5)]), (Fl r26), (Fl r26), (Fl r30), v37, v38, v39, v40, v41, v42, v43, v44, v45, Ud, Ud, Ud, Ud]) rfl (fun _ => rfl) (fun u hu hF => ?_) (fun v45 => ?_)
  · have h11_ : v39 = (Bo β1) := hF.1
    have h16_ : β1 = false → v44 = (Bo (!β2)) := hF.2.1
    clear hF
    refine doesG_un rfl ?_
    skip
    obtain rfl := h11_
    refine (does_pick (b := β1) (u := (Bo true)) (v := v44) (ev rfl) (ev rfl) (ev rfl)).mono ?_; rintro _ _ ⟨rfl, rfl⟩; refine ⟨?_, Ext.refl _⟩; skip
    cases hbb : β1
    all_goals first | (show _ = _; simp only [↓reduceIte, Bool.true_and, Bool.false_and, Bool.true_or, Bool.false_or, Bool.false_eq_true]; done) | (have e_ := h16_ hbb; subst e_; show _ = _; simp only [↓reduceIte, Bool.true_and, Bool.false_and, Bool.true_or, Bool.false_or, Bool.false_eq_true]; done) | rfl | (have e_ := h16_ hbb; subst e_; rfl) | (simp [hbb] at h16_ ⊢; first | done | rfl | (subst h16_; rfl) | simp_all) | (simp [hbb] at h16_ ⊢; done)
  refine RW_fin ?_; intro w46 E47 hP48
  obtain ⟨⟨⟨⟨⟨⟨⟨⟨⟨-, -⟩, -⟩, -⟩, -⟩, -⟩, -⟩, -⟩, -⟩, q49⟩ := hP48
  have X50 := Ext.gr X34 E47
  have q49 : v45 = (Bo (β1 || (!β2))) := q49
  obtain rfl := q49
  show wpList _ _ _ _ (fr [(.agg #[(Fl r1), (Fl r3), (Fl r5)]), (Pt b8 0), (Pt b15 0), (Fl r26), (Fl r30), (.agg #[(Fl r1), (Fl r3), (Fl r5)]), (Fl r26), (Fl r26), (Fl r30), v37, v38, v39, v40, v41, v42, v43, v44, (Bo (β1 || (!β2))), Ud, Ud, Ud, Ud]) _
  refine wpList_nil (hK36 _ _ ?_)
  refine wp_cond_split (t := β1 || (!β2)) (ev rfl) (fun c51 => ?_) (fun c51 => ?_)
  · have c51' := c51
    (try simp only [hβ1, hβ2, any2_finF] at c51')
    (try simp only [hβ1, hβ2] at c51')
    (try simp only [icmp, Bool.and_eq_true, Bool.or_eq_true, Bool.and_eq_false_iff, Bool.or_eq_false_iff, Bool.not_eq_true', Bool.not_eq_false', decide_eq_true_eq, decide_eq_false_iff_not, beq_iff_eq, bne_iff_ne, beq_eq_false_iff_ne, bne_eq_false_iff_eq] at c51')
    refine wp_seq_k fun K52 hK52 => ?_
    refine wp_region_lit ?_
    refine q_is (l' := [(.agg #[(Fl r1), (Fl r3), (Fl r5)]), (Pt b8 0), (Pt b15 0), (Fl r26), (Fl r30), (.agg #[(Fl r1), (Fl r3), (Fl r5)]), (Fl r26), (Fl r26), (Fl r30), v37, v38, v39, v40, v41, v42, v43, v44, (Bo (β1 || (!β2))), (.agg #[(Fl 0), (Fl 0), (Fl 0)]), Ud, Ud, Ud]) rfl rfl (does_build (parts' := []) (cells := #[(Fl 0), (Fl 0), (Fl 0)]) (evp rfl) (by kernel_rfl)) rfl ?_
    refine seqn rfl rfl (does_store (n := 3) (cs := [(Fl 0), (Fl 0), (Fl 0)]) (u := (.agg #[(Fl 0), (Fl 0), (Fl 0)])) (ev rfl) (ev rfl) Try.sizeOf40 rfl (((hB17.ext E24).ext E32).ext E47) (Nat.le_of_ble_eq_true rfl) rfl) ?_; rintro _ w55 ⟨rfl, W53, hB54⟩
    change Blk _ _ [(Fl 0), (Fl 0), (Fl 0)] at hB54
    have X56 := Below.wr X50 W53 g21
    refine wpList_nil (hK52 _ _ ?_)
    refine wp_ret ?_
    dsimp only [Exit.then, Exit.inBlock]
    refine ret_val (v := (.agg #[(Fl 0), (Fl 0), (Fl 0)])) (res_C rfl (slot rfl) (run_loadAgg (cs := [(Fl 0), (Fl 0), (Fl 0)]) Try.isAgg40 Try.sizeOf40 (Blk.cells hB54) rfl)) X56 ?_
    try simp only [h2, h4, h6, h27, h31, hβ1, hβ2, any2_finF] at c51
    have x57 : cf .f32 0 = (unitF A_v).x := by first | (rw [unit_zero1 (by assumption)]; rfl) | (rw [unit_zero2 (by assumption)]; rfl) | (rw [unit_by1 (by assumption)]; simp only [vscale, h2, h4, h6, h27, h31, hβ1, hβ2, c51]; done) | (rw [unit_by2 (by assumption)]; simp only [vscale, h2, h4, h6, h27, h31, hβ1, hβ2, c51]; done)
    have x58 : cf .f32 0 = (unitF A_v).y := by first | (rw [unit_zero1 (by assumption)]; rfl) | (rw [unit_zero2 (by assumption)]; rfl) | (rw [unit_by1 (by assumption)]; simp only [vscale, h2, h4, h6, h27, h31, hβ1, hβ2, c51]; done) | (rw [unit_by2 (by assumption)]; simp only [vscale, h2, h4, h6, h27, h31, hβ1, hβ2, c51]; done)
    have x59 : cf .f32 0 = (unitF A_v).z := by first | (rw [unit_zero1 (by assumption)]; rfl) | (rw [unit_zero2 (by assumption)]; rfl) | (rw [unit_by1 (by assumption)]; simp only [vscale, h2, h4, h6, h27, h31, hβ1, hβ2, c51]; done) | (rw [unit_by2 (by assumption)]; simp only [vscale, h2, h4, h6, h27, h31, hβ1, hβ2, c51]; done)
    exact ⟨[(Fl 0), (Fl 0), (Fl 0)], rfl, ⟨0, 0, 0, rfl, x57, x58, x59⟩⟩
  have c51' := c51
  (try simp only [hβ1, hβ2, any2_finF] at c51')
  (try simp only [hβ1, hβ2] at c51')
  (try simp only [icmp, Bool.and_eq_true, Bool.or_eq_true, Bool.and_eq_false_iff, Bool.or_eq_false_iff, Bool.not_eq_true', Bool.not_eq_false', decide_eq_true_eq, decide_eq_false_iff_not, beq_iff_eq, bne_iff_ne, beq_eq_false_iff_ne, bne_eq_false_iff_eq] at c51')
  refine wp_skip (hK35 _ _ ?_)
  refine wp_seq_k fun K60 hK60 => ?_
  refine wp_region_lit ?_
  refine q_is (l' := [(.agg #[(Fl r1), (Fl r3), (Fl r5)]), (Pt b8 0), (Pt b15 0), (Fl r26), (Fl r30), (.agg #[(Fl r1), (Fl r3), (Fl r5)]), (Fl r26), (Fl r26), (Fl r30), v37, v38, v39, v40, v41, v42, v43, v44, (Bo (β1 || (!β2))), Ud, (.agg #[(Fl r1), (Fl r3), (Fl r5)]), Ud, Ud]) rfl rfl (does_loadAgg (cs := [(Fl r1), (Fl r3), (Fl r5)]) (ev rfl) Try.isAgg40 Try.sizeOf40 (Blk.cells ((((hB10.ext E18).ext E24).ext E32).ext E47)) rfl) rfl ?_
  refine q_is (l' := [(.agg #[(Fl r1), (Fl r3), (Fl r5)]), (Pt b8 0), (Pt b15 0), (Fl r26), (Fl r30), (.agg #[(Fl r1), (Fl r3), (Fl r5)]), (Fl r26), (Fl r26), (Fl r30), v37, v38, v39, v40, v41, v42, v43, v44, (Bo (β1 || (!β2))), Ud, (.agg #[(Fl r1), (Fl r3), (Fl r5)]), (Fl r30), Ud]) rfl rfl (does_move (u := (Fl r30)) (ev rfl)) rfl ?_
  refine seqd rfl rfl (does_call (args := #[(.agg #[(Fl r1), (Fl r3), (Fl r5)]), (Fl r30)]) cal109 (evs rfl) (c_impl_ScaleVector [(Fl r1), (Fl r3), (Fl r5)] A_v r30 _ ⟨r1, r3, r5, rfl, h2, h4, h6⟩)) ?_; rintro _ w62 ⟨E61, ⟨_, rfl, ⟨r63, r65, r67, rfl, h64, h66, h68⟩⟩⟩
  have X69 := Ext.gr X50 E61
  show wpList _ _ _ _ (fr [(.agg #[(Fl r1), (Fl r3), (Fl r5)]), (Pt b8 0), (Pt b15 0), (Fl r26), (Fl r30), (.agg #[(Fl r1), (Fl r3), (Fl r5)]), (Fl r26), (Fl r26), (Fl r30), v37, v38, v39, v40, v41, v42, v43, v44, (Bo (β1 || (!β2))), Ud, (.agg #[(Fl r1), (Fl r3), (Fl r5)]), (Fl r30), (.agg #[(Fl r63), (Fl r65), (Fl r67)])]) _
  refine seqn rfl rfl (does_store (n := 3) (cs := [(Fl 0), (Fl 0), (Fl 0)]) (u := (.agg #[(Fl r63), (Fl r65), (Fl r67)])) (ev rfl) (ev rfl) Try.sizeOf40 rfl ((((hB17.ext E24).ext E32).ext E47).ext E61) (Nat.le_of_ble_eq_true rfl) rfl) ?_; rintro _ w72 ⟨rfl, W70, hB71⟩
  change Blk _ _ [(Fl r63), (Fl r65), (Fl r67)] at hB71
  have X73 := Below.wr X69 W70 g21
  refine wpList_nil (hK60 _ _ ?_)
  refine wp_ret ?_
  refine ret_val (v := (.agg #[(Fl r63), (Fl r65), (Fl r67)])) (res_C rfl (slot rfl) (run_loadAgg (cs := [(Fl r63), (Fl r65), (Fl r67)]) Try.isAgg40 Try.sizeOf40 (Blk.cells hB71) rfl)) X73 ?_
  try simp only [h2, h4, h6, h27, h31, hβ1, hβ2, h64, h66, h68, any2_finF] at c51
  have x74 : cf .f32 r63 = (unitF A_v).x := by first | (rw [unit_zero1 (by assumption)]; rfl) | (rw [unit_zero2 (by assumption)]; rfl) | (rw [unit_by1 (by assumption)]; simp only [vscale, h2, h4, h6, h27, h31, hβ1, hβ2, h64, h66, h68, c51]; done) | (rw [unit_by2 (by assumption)]; simp only [vscale, h2, h4, h6, h27, h31, hβ1, hβ2, h64, h66, h68, c51]; done)
  have x75 : cf .f32 r65 = (unitF A_v).y := by first | (rw [unit_zero1 (by assumption)]; rfl) | (rw [unit_zero2 (by assumption)]; rfl) | (rw [unit_by1 (by assumption)]; simp only [vscale, h2, h4, h6, h27, h31, hβ1, hβ2, h64, h66, h68, c51]; done) | (rw [unit_by2 (by assumption)]; simp only [vscale, h2, h4, h6, h27, h31, hβ1, hβ2, h64, h66, h68, c51]; done)
  have x76 : cf .f32 r67 = (unitF A_v).z := by first | (rw [unit_zero1 (by assumption)]; rfl) | (rw [unit_zero2 (by assumption)]; rfl) | (rw [unit_by1 (by assumption)]; simp only [vscale, h2, h4, h6, h27, h31, hβ1, hβ2, h64, h66, h68, c51]; done) | (rw [unit_by2 (by assumption)]; simp only [vscale, h2, h4, h6, h27, h31, hβ1, hβ2, h64, h66, h68, c51]; done)
  exact ⟨[(Fl r63), (Fl r65), (Fl r67)], rfl, ⟨r63, r65, r67, rfl, x74, x75, x76⟩⟩

/- impl.LessVectors -/
theorem c_impl_LessVectors (a : List Value) (A_a : V3) (b : List Value) (A_b : V3) (w : World) (hv_a : RV3 w A_a a) (hv_b : RV3 w A_b b) : Gives Try.prog 98 #[(.agg a.toArray), (.agg b.toArray)] w (fun v w' => ∃ cs_1 : List Value, v = (.agg cs_1.toArray) ∧ RV3 w (vsub A_a A_b) cs_1) := by
  obtain ⟨r1, r3, r5, rfl, h2, h4, h6⟩ := hv_a
  obtain ⟨r7, r9, r11, rfl, h8, h10, h12⟩ := hv_b
  refine enter [(.agg #[(Fl r1), (Fl r3), (Fl r5)]), (.agg #[(Fl r7), (Fl r9), (Fl r11)]), Ud, Ud, Ud, Ud, Ud, Ud, Ud, Ud, Ud, Ud, Ud, Ud, Ud, Ud, Ud, Ud, Ud, Ud, Ud] Try.func98 rfl Try.ntmps98 rfl ?_
  refine wp_seq_k fun K13 hK13 => ?_
  refine wp_region_lit ?_
  refine seqd rfl rfl (does_box (u := (.agg #[(Fl r1), (Fl r3), (Fl r5)])) (ev rfl)) ?_; rintro _ w18 ⟨b14, rfl, hb15, hB16, E17⟩
  have g19 : w.heap.size ≤ b14 := Nat.le_trans (Below.size (Ext.refl w)) hb15
  change Blk _ _ [(Fl r1), (Fl r3), (Fl r5)] at hB16
  have X20 := Ext.gr (Ext.refl w) E17
  show wpList _ _ _ _ (fr [(.agg #[(Fl r1), (Fl r3), (Fl r5)]), (.agg #[(Fl r7), (Fl r9), (Fl r11)]), (Pt b14 0), Ud, Ud, Ud, Ud, Ud, Ud, Ud, Ud, Ud, Ud, Ud, Ud, Ud, Ud, Ud, Ud, Ud, Ud]) _
  refine seqd rfl rfl (does_box (u := (.agg #[(Fl r7), (Fl r9), (Fl r11)])) (ev rfl)) ?_; rintro _ w25 ⟨b21, rfl, hb22, hB23, E24⟩
  have n26 : b14 < b21 := Nat.lt_of_lt_of_le (Blk.lt hB16) hb22
  have g27 : w.heap.size ≤ b21 := Nat.le_trans (Below.size X20) hb22
  change Blk _ _ [(Fl r7), (Fl r9), (Fl r11)] at hB23
  have X28 := Ext.gr X20 E24
  show wpList _ _ _ _ (fr [(.agg #[(Fl r1), (Fl r3), (Fl r5)]), (.agg #[(Fl r7), (Fl r9), (Fl r11)]), (Pt b14 0), (Pt b21 0), Ud, Ud, Ud, Ud, Ud, Ud, Ud, Ud, Ud, Ud, Ud, Ud, Ud, Ud, Ud, Ud, Ud]) _
  refine seqd rfl rfl (does_alloc z40) ?_; rintro _ w33 ⟨b29, rfl, hb30, hB31, E32⟩
  have n34 : b14 < b29 := Nat.lt_of_lt_of_le (Blk.lt (hB16.ext E24)) hb30
  have n35 : b21 < b29 := Nat.lt_of_lt_of_le (Blk.lt hB23) hb30
  have g36 : w.heap.size ≤ b29 := Nat.le_trans (Below.size X28) hb30
  change Blk _ _ [(Fl 0), (Fl 0), (Fl 0)] at hB31
  have X37 := Ext.gr X28 E32
  show wpList _ _ _ _ (fr [(.agg #[(Fl r1), (Fl r3), (Fl r5)]), (.agg #[(Fl r7), (Fl r9), (Fl r11)]), (Pt b14 0), (Pt b21 0), (Pt b29 0), Ud, Ud, Ud, Ud, Ud, Ud, Ud, Ud, Ud, Ud, Ud, Ud, Ud, Ud, Ud, Ud]) _
  refine wpList_nil (hK13 _ _ ?_)
  refine wp_seq_k fun K38 hK38 => ?_
  refine wp_region_lit ?_
  refine q_is (l' := [(.agg #[(Fl r1), (Fl r3), (Fl r5)]), (.agg #[(Fl r7), (Fl r9), (Fl r11)]), (Pt b14 0), (Pt b21 0), (Pt b29 0), (Pt b14 0), Ud, Ud, Ud, Ud, Ud, Ud, Ud, Ud, Ud, Ud, Ud, Ud, Ud, Ud, Ud]) rfl rfl (does_fieldAddr (ev rfl) fa40_0) rfl ?_
  refine q_is (l' := [(.agg #[(Fl r1), (Fl r3), (Fl r5)]), (.agg #[(Fl r7), (Fl r9), (Fl r11)]), (Pt b14 0), (Pt b21 0), (Pt b29 0), (Pt b14 0), (Fl r1), Ud, Ud, Ud, Ud, Ud, Ud, Ud, Ud, Ud, Ud, Ud, Ud, Ud, Ud]) rfl rfl (does_load (u := (Fl r1)) (ev rfl) Try.isAgg38 (Cells.at (Blk.cells ((hB16.ext E24).ext E32)) 0 rfl)) rfl ?_
  refine q_is (l' := [(.agg #[(Fl r1), (Fl r3), (Fl r5)]), (.agg #[(Fl r7), (Fl r9), (Fl r11)]), (Pt b14 0), (Pt b21 0), (Pt b29 0), (Pt b14 0), (Fl r1), (Pt b21 0), Ud, Ud, Ud, Ud, Ud, Ud, Ud, Ud, Ud, Ud, Ud, Ud, Ud]) rfl rfl (does_fieldAddr (ev rfl) fa40_0) rfl ?_
  refine q_is (l' := [(.agg #[(Fl r1), (Fl r3), (Fl r5)]), (.agg #[(Fl r7), (Fl r9), (Fl r11)]), (Pt b14 0), (Pt b21 0), (Pt b29 0), (Pt b14 0), (Fl r1), (Pt b21 0), (Fl r7), Ud, Ud, Ud, Ud, Ud, Ud, Ud, Ud, Ud, Ud, Ud, Ud]) rfl rfl (does_load (u := (Fl r7)) (ev rfl) Try.isAgg38 (Cells.at (Blk.cells (hB23.ext E32)) 0 rfl)) rfl ?_
  refine seqd rfl rfl (does_float (.inr (.inl rfl)) (ev rfl) (ev rfl)) ?_; rintro _ w42 ⟨r39, rfl, h40, E41⟩
  have X43 := Ext.gr X37 E41
  show wpList _ _ _ _ (fr [(.agg #[(Fl r1), (Fl r3), (Fl r5)]), (.agg #[(Fl r7), (Fl r9), (Fl r11)]), (Pt b14 0), (Pt b21 0), (Pt b29 0), (Pt b14 0), (Fl r1), (Pt b21 0), (Fl r7), (Fl r39), Ud, Ud, Ud, Ud, Ud, Ud, Ud, Ud, Ud, Ud, Ud]) _
  refine q_is (l' := [(.agg #[(Fl r1), (Fl r3), (Fl r5)]), (.agg #[(Fl r7), (Fl r9), (Fl r11)]), (Pt b14 0), (Pt b21 0), (Pt b29 0), (Pt b14 0), (Fl r1), (Pt b21 0), (Fl r7), (Fl r39), (Pt b14 1), Ud, Ud, Ud, Ud, Ud, Ud, Ud, Ud, Ud, Ud]) rfl rfl (does_fieldAddr (ev rfl) fa40_1) rfl ?_
  refine q_is (l' := [(.agg #[(Fl r1), (Fl r3), (Fl r5)]), (.agg #[(Fl r7), (Fl r9), (Fl r11)]), (Pt b14 0), (Pt b21 0), (Pt b29 0), (Pt b14 0), (Fl r1), (Pt b21 0), (Fl r7), (Fl r39), (Pt b14 1), (Fl r3), Ud, Ud, Ud, Ud, Ud, Ud, Ud, Ud, Ud]) rfl rfl (does_load (u := (Fl r3)) (ev rfl) Try.isAgg38 (Cells.at (Blk.cells (((hB16.ext E24).ext E32).ext E41)) 1 rfl)) rfl ?_
  refine q_is (l' := [(.agg #[(Fl r1), (Fl r3), (Fl r5)]), (.agg #[(Fl r7), (Fl r9), (Fl r11)]), (Pt b14 0), (Pt b21 0), (Pt b29 0), (Pt b14 0), (Fl r1), (Pt b21 0), (Fl r7), (Fl r39), (Pt b14 1), (Fl r3), (Pt b21 1), Ud, Ud, Ud, Ud, Ud, Ud, Ud, Ud]) rfl rfl (does_fieldAddr (ev rfl) fa40_1) rfl ?_
  refine q_is (l' := [(.agg #[(Fl r1), (Fl r3), (Fl r5)]), (.agg #[(Fl r7), (Fl r9), (Fl r11)]), (Pt b14 0), (Pt b21 0), (Pt b29 0), (Pt b14 0), (Fl r1), (Pt b21 0), (Fl r7), (Fl r39), (Pt b14 1), (Fl r3), (Pt b21 1), (Fl r9), Ud, Ud, Ud, Ud, Ud, Ud, Ud]) rfl rfl (does_load (u := (Fl r9)) (ev rfl) Try.isAgg38 (Cells.at (Blk.cells ((hB23.ext E32).ext E41)) 1 rfl)) rfl ?_
  refine seqd rfl rfl (does_float (.inr (.inl rfl)) (ev rfl) (ev rfl)) ?_; rintro _ w47 ⟨r44, rfl, h45, E46⟩
  have X48 := Ext.gr X43 E46
  show wpList _ _ _ _ (fr [(.agg #[(Fl r1), (Fl r3), (Fl r5)]), (.agg #[(Fl r7), (Fl r9), (Fl r11)]), (Pt b14 0), (Pt b21 0), (Pt b29 0), (Pt b14 0), (Fl r1), (Pt b21 0), (Fl r7), (Fl r39), (Pt b14 1), (Fl r3), (Pt b21 1), (Fl r9), (Fl r44), Ud, Ud, Ud, Ud, Ud, Ud]) _
  refine q_is (l' := [(.agg #[(Fl r1), (Fl r3), (Fl r5)]), (.agg #[(Fl r7), (Fl r9), (Fl r11)]), (Pt b14 0), (Pt b21 0), (Pt b29 0), (Pt b14 0), (Fl r1), (Pt b21 0), (Fl r7), (Fl r39), (Pt b14 1), (Fl r3), (Pt b21 1), (Fl r9), (Fl r44), (Pt b14 2), Ud, Ud, Ud, Ud, Ud]) rfl rfl (does_fieldAddr (ev rfl) fa40_2) rfl ?_
  refine q_is (l' := [(.agg #[(Fl r1), (Fl r3), (Fl r5)]), (.agg #[(Fl r7), (Fl r9), (Fl r11)]), (Pt b14 0), (Pt b21 0), (Pt b29 0), (Pt b14 0), (Fl r1), (Pt b21 0), (Fl r7), (Fl r39), (Pt b14 1), (Fl r3), (Pt b21 1), (Fl r9), (Fl r44), (Pt b14 2), (Fl r5), Ud, Ud, Ud, Ud]) rfl rfl (does_load (u := (Fl r5)) (ev rfl) Try.isAgg38 (Cells.at (Blk.cells ((((hB16.ext E24).ext E32).ext E41).ext E46)) 2 rfl)) rfl ?_
  refine q_is (l' := [(.agg #[(Fl r1), (Fl r3), (Fl r5)]), (.agg #[(Fl r7), (Fl r9), (Fl r11)]), (Pt b14 0), (Pt b21 0), (Pt b29 0), (Pt b14 0), (Fl r1), (Pt b21 0), (Fl r7), (Fl r39), (Pt b14 1), (Fl r3), (Pt b21 1), (Fl r9), (Fl r44), (Pt b14 2), (Fl r5), (Pt b21 2), Ud, Ud, Ud]) rfl rfl (does_fieldAddr (ev rfl) fa40_2) rfl ?_
  refine q_is (l' := [(.agg #[(Fl r1), (Fl r3), (Fl r5)]), (.agg #[(Fl r7), (Fl r9), (Fl r11)]), (Pt b14 0), (Pt b21 0), (Pt b29 0), (Pt b14 0), (Fl r1), (Pt b21 0), (Fl r7), (Fl r39), (Pt b14 1), (Fl r3), (Pt b21 1), (Fl r9), (Fl r44), (Pt b14 2), (Fl r5), (Pt b21 2), (Fl r11), Ud, Ud]) rfl rfl (does_load (u := (Fl r11)) (ev rfl) Try.isAgg38 (Cells.at (Blk.cells (((hB23.ext E32).ext E41).ext E46)) 2 rfl)) rfl ?_
  refine seqd rfl rfl (does_float (.inr (.inl rfl)) (ev rfl) (ev rfl)) ?_; rintro _ w52 ⟨r49, rfl, h50, E51⟩
  have X53 := Ext.gr X48 E51
  show wpList _ _ _ _ (fr [(.agg #[(Fl r1), (Fl r3), (Fl r5)]), (.agg #[(Fl r7), (Fl r9), (Fl r11)]), (Pt b14 0), (Pt b21 0), (Pt b29 0), (Pt b14 0), (Fl r1), (Pt b21 0), (Fl r7), (Fl r39), (Pt b14 1), (Fl r3), (Pt b21 1), (Fl r9), (Fl r44), (Pt b14 2), (Fl r5), (Pt b21 2), (Fl r11), (Fl r49), Ud]) _
  refine q_is (l' := [(.agg #[(Fl r1), (Fl r3), (Fl r5)]), (.agg #[(Fl r7), (Fl r9), (Fl r11)]), (Pt b14 0), (Pt b21 0), (Pt b29 0), (Pt b14 0), (Fl r1), (Pt b21 0), (Fl r7), (Fl r39), (Pt b14 1), (Fl r3), (Pt b21 1), (Fl r9), (Fl r44), (Pt b14 2), (Fl r5), (Pt b21 2), (Fl r11), (Fl r49), (.agg #[(Fl r39), (Fl r44), (Fl r49)])]) rfl rfl (does_build (parts' := [(0, (Fl r39)), (1, (Fl r44)), (2, (Fl r49))]) (cells := #[(Fl r39), (Fl r44), (Fl r49)]) (evp rfl) (by kernel_rfl)) rfl ?_
  refine seqn rfl rfl (does_store (n := 3) (cs := [(Fl 0), (Fl 0), (Fl 0)]) (u := (.agg #[(Fl r39), (Fl r44), (Fl r49)])) (ev rfl) (ev rfl) Try.sizeOf40 rfl (((hB31.ext E41).ext E46).ext E51) (Nat.le_of_ble_eq_true rfl) rfl) ?_; rintro _ w56 ⟨rfl, W54, hB55⟩
  change Blk _ _ [(Fl r39), (Fl r44), (Fl r49)] at hB55
  have X57 := Below.wr X53 W54 g36
  refine wpList_nil (hK38 _ _ ?_)
  refine wp_ret ?_
  refine ret_val (v := (.agg #[(Fl r39), (Fl r44), (Fl r49)])) (res_C rfl (slot rfl) (run_loadAgg (cs := [(Fl r39), (Fl r44), (Fl r49)]) Try.isAgg40 Try.sizeOf40 (Blk.cells hB55) rfl)) X57 ?_
  have x58 : cf .f32 r39 = (vsub A_a A_b).x := by first | with_reducible rfl | (simp only [vsub, h2, h4, h6, h8, h10, h12, h40, h45, h50]; done) | (simp [vsub, h2, h4, h6, h8, h10, h12, h40, h45, h50]; done) | rfl
  have x59 : cf .f32 r44 = (vsub A_a A_b).y := by first | with_reducible rfl | (simp only [vsub, h2, h4, h6, h8, h10, h12, h40, h45, h50]; done) | (simp [vsub, h2, h4, h6, h8, h10, h12, h40, h45, h50]; done) | rfl
  have x60 : cf .f32 r49 = (vsub A_a A_b).z := by first | with_reducible rfl | (simp only [vsub, h2, h4, h6, h8, h10, h12, h40, h45, h50]; done) | (simp [vsub, h2, h4, h6, h8, h10, h12, h40, h45, h50]; done) | rfl
  exact ⟨[(Fl r39), (Fl r44), (Fl r49)], rfl, ⟨r39, r44, r49, rfl, x58, x59, x60⟩⟩

/- impl.crossed -/
theorem c_impl_crossed (c1 : Nat) (c2 : Nat) (c3 : Nat) (c4 : Nat) (w : World) : Gives Try.prog 113 #[(Fl c1), (Fl c2), (Fl c3), (Fl c4)] w (fun v w' => ∃ r_1 : Nat, v = (Fl r_1) ∧ cf .f32 r_1 = fop .sub .f32 (fop .mul .f32 (cf .f32 c1) (cf .f32 c2)) (fop .mul .f32 (cf .f32 c3) (cf .f32 c4))) := by
  refine enter [(Fl c1), (Fl c2), (Fl c3), (Fl c4), Ud, Ud, Ud, Ud, Ud, Ud, Ud, Ud, Ud, Ud, Ud, Ud] Try.func113 rfl Try.ntmps113 rfl ?_
  refine wp_seq_k fun K1 hK1 => ?_
  refine wp_region_lit ?_
  refine q_is (l' := [(Fl c1), (Fl c2), (Fl c3), (Fl c4), Ud, Ud, Ud, Ud, (Fl 0), Ud, Ud, Ud, Ud, Ud, Ud, Ud]) rfl rfl (does_assign (u := (Fl 0)) (ev rfl)) rfl ?_
  refine wpList_nil (hK1 _ _ ?_)
  refine wp_seq_k fun K2 hK2 => ?_
  refine wp_region_lit ?_
  refine q_is (l' := [(Fl c1), (Fl c2), (Fl c3), (Fl c4), Ud, Ud, Ud, Ud, (Fl 0), (Fl c1), Ud, Ud, Ud, Ud, Ud, Ud]) rfl rfl (does_move (u := (Fl c1)) (ev rfl)) rfl ?_
  refine q_is (l' := [(Fl c1), (Fl c2), (Fl c3), (Fl c4), Ud, Ud, Ud, Ud, (Fl 0), (Fl c1), (Fl c2), Ud, Ud, Ud, Ud, Ud]) rfl rfl (does_move (u := (Fl c2)) (ev rfl)) rfl ?_
  refine seqd rfl rfl (does_float (.inr (.inr (.inl rfl))) (ev rfl) (ev rfl)) ?_; rintro _ w6 ⟨r3, rfl, h4, E5⟩
  have X7 := Ext.gr (Ext.refl w) E5
  show wpList _ _ _ _ (fr [(Fl c1), (Fl c2), (Fl c3), (Fl c4), Ud, Ud, Ud, Ud, (Fl 0), (Fl c1), (Fl c2), (Fl r3), Ud, Ud, Ud, Ud]) _
  refine q_is (l' := [(Fl c1), (Fl c2), (Fl c3), (Fl c4), Ud, Ud, Ud, Ud, (Fl 0), (Fl c1), (Fl c2), (Fl r3), (Fl c3), Ud, Ud, Ud]) rfl rfl (does_move (u := (Fl c3)) (ev rfl)) rfl ?_
  refine q_is (l' := [(Fl c1), (Fl c2), (Fl c3), (Fl c4), Ud, Ud, Ud, Ud, (Fl 0), (Fl c1), (Fl c2), (Fl r3), (Fl c3), (Fl c4), Ud, Ud]) rfl rfl (does_move (u := (Fl c4)) (ev rfl)) rfl ?_
  refine seqd rfl rfl (does_float (.inr (.inr (.inl rfl))) (ev rfl) (ev rfl)) ?_; rintro _ w11 ⟨r8, rfl, h9, E10⟩
  have X12 := Ext.gr X7 E10
  show wpList _ _ _ _ (fr [(Fl c1), (Fl c2), (Fl c3), (Fl c4), Ud, Ud, Ud, Ud, (Fl 0), (Fl c1), (Fl c2), (Fl r3), (Fl c3), (Fl c4), (Fl r8), Ud]) _
  refine seqd rfl rfl (does_float (.inr (.inl rfl)) (ev rfl) (ev rfl)) ?_; rintro _ w16 ⟨r13, rfl, h14, E15⟩
  have X17 := Ext.gr X12 E15
  show wpList _ _ _ _ (fr [(Fl c1), (Fl c2), (Fl c3), (Fl c4), Ud, Ud, Ud, Ud, (Fl 0), (Fl c1), (Fl c2), (Fl r3), (Fl c3), (Fl c4), (Fl r8), (Fl r13)]) _
  refine q_is (l' := [(Fl c1), (Fl c2), (Fl c3), (Fl c4), Ud, Ud, Ud, Ud, (Fl r13), (Fl c1), (Fl c2), (Fl r3), (Fl c3), (Fl c4), (Fl r8), (Fl r13)]) rfl rfl (does_assign (u := (Fl r13)) (ev rfl)) rfl ?_
  refine wpList_nil (hK2 _ _ ?_)
  refine wp_ret ?_
  refine ret_val (v := (Fl r13)) (res_T rfl (slot rfl)) X17 ?_
  have x18 : cf .f32 r13 = fop .sub .f32 (fop .mul .f32 (cf .f32 c1) (cf .f32 c2)) (fop .mul .f32 (cf .f32 c3) (cf .f32 c4)) := by first | with_reducible rfl | (simp only [h4, h9, h14]; done) | (simp [h4, h9, h14]; done) | rfl
  exact ⟨r13, rfl, x18⟩

/- impl.CrossOf -/
theorem c_impl_CrossOf (a : List Value) (A_a : V3) (b : List Value) (A_b : V3) (w : World) (hv_a : RV3 w A_a a) (hv_b : RV3 w A_b b) : Gives Try.prog 99 #[(.agg a.toArray), (.agg b.toArray)] w (fun v w' => ∃ cs_1 : List Value, v = (.agg cs_1.toArray) ∧ RV3 w (crossF A_a A_b) cs_1) := by
  obtain ⟨r1, r3, r5, rfl, h2, h4, h6⟩ := hv_a
  obtain ⟨r7, r9, r11, rfl, h8, h10, h12⟩ := hv_b
  refine enter [(.agg #[(Fl r1), (Fl r3), (Fl r5)]), (.agg #[(Fl r7), (Fl r9), (Fl r11)]), Ud, Ud, Ud, Ud, Ud, Ud, Ud, Ud, Ud, Ud, Ud, Ud, Ud, Ud, Ud, Ud, Ud, Ud, Ud, Ud, Ud, Ud, Ud, Ud, Ud, Ud, Ud, Ud, Ud, Ud, Ud] Try.func99 rfl Try.ntmps99 rfl ?_
  refine wp_seq_k fun K13 hK13 => ?_
  refine wp_region_lit ?_
  refine seqd rfl rfl (does_box (u := (.agg #[(Fl r1), (Fl r3), (Fl r5)])) (ev rfl)) ?_; rintro _ w18 ⟨b14, rfl, hb15, hB16, E17⟩
  have g19 : w.heap.size ≤ b14 := Nat.le_trans (Below.size (Ext.refl w)) hb15
  change Blk _ _ [(Fl r1), (Fl r3), (Fl r5)] at hB16
  have X20 := Ext.gr (Ext.refl w) E17
  show wpList _ _ _ _ (fr [_, _, _, _, _, _, _, _, _, _, _, _, _, _, _, _, _, _, _, _, _, _, _, _, _, _, _, _, _, _, _, _, _]) _
  refine seqd rfl rfl (does_box (u := (.agg #[(Fl r7), (Fl r9), (Fl r11)])) (ev rfl)) ?_; rintro _ w25 ⟨b21, rfl, hb22, hB23, E24⟩
  have n26 : b14 < b21 := Nat.lt_of_lt_of_le (Blk.lt hB16) hb22
  have g27 : w.heap.size ≤ b21 := Nat.le_trans (Below.size X20) hb22
  change Blk _ _ [(Fl r7), (Fl r9), (Fl r11)] at hB23
  have X28 := Ext.gr X20 E24
  show wpList _ _ _ _ (fr [_, _, _, _, _, _, _, _, _, _, _, _, _, _, _, _, _, _, _, _, _, _, _, _, _, _, _, _, _, _, _, _, _]) _
  refine seqd rfl rfl (does_alloc z40) ?_; rintro _ w33 ⟨b29, rfl, hb30, hB31, E32⟩
  have n34 : b14 < b29 := Nat.lt_of_lt_of_le (Blk.lt (hB16.ext E24)) hb30
  have n35 : b21 < b29 := Nat.lt_of_lt_of_le (Blk.lt hB23) hb30
  have g36 : w.heap.size ≤ b29 := Nat.le_trans (Below.size X28) hb30
  change Blk _ _ [(Fl 0), (Fl 0), (Fl 0)] at hB31
  have X37 := Ext.gr X28 E32
  show wpList _ _ _ _ (fr [_, _, _, _, _, _, _, _, _, _, _, _, _, _, _, _, _, _, _, _, _, _, _, _, _, _, _, _, _, _, _, _, _]) _
  refine wpList_nil (hK13 _ _ ?_)
  refine wp_seq_k fun K38 hK38 => ?_
  refine region_draw (
    [Fact.pure [] (fun v => v = (Pt b14 1)),
    Fact.pure [5] (fun v => v = (Fl r3)),
    Fact.pure [] (fun v => v = (Pt b21 2)),
    Fact.pure [7] (fun v => v = (Fl r11)),
    Fact.pure [] (fun v => v = (Pt b14 2)),
    Fact.pure [9] (fun v => v = (Fl r5)),
    Fact.pure [] (fun v => v = (Pt b21 1)),
    Fact.pure [11] (fun v => v = (Fl r9)),
    Fact.pure [6, 8, 10, 12] (fun v => ∃ r_1 : Nat, v = (Fl r_1) ∧ cf .f32 r_1 = fop .sub .f32 (fop .mul .f32 (cf .f32 r3) (cf .f32 r11)) (fop .mul .f32 (cf .f32 r5) (cf .f32 r9))),
    Fact.pure [] (fun v => v = (Pt b14 2)),
    Fact.pure [14] (fun v => v = (Fl r5)),
    Fact.pure [] (fun v => v = (Pt b21 0)),
    Fact.pure [16] (fun v => v = (Fl r7)),
    Fact.pure [] (fun v => v = (Pt b14 0)),
    Fact.pure [18] (fun v => v = (Fl r1)),
    Fact.pure [] (fun v => v = (Pt b21 2)),
    Fact.pure [20] (fun v => v = (Fl r11)),
    Fact.pure [15, 17, 19, 21] (fun v => ∃ r_1 : Nat, v = (Fl r_1) ∧ cf .f32 r_1 = fop .sub .f32 (fop .mul .f32 (cf .f32 r5) (cf .f32 r7)) (fop .mul .f32 (cf .f32 r1) (cf .f32 r11))),
    Fact.pure [] (fun v => v = (Pt b14 0)),
    Fact.pure [23] (fun v => v = (Fl r1)),
    Fact.pure [] (fun v => v = (Pt b21 1)),
    Fact.pure [25] (fun v => v = (Fl r9)),
    Fact.pure [] (fun v => v = (Pt b14 1)),
    Fact.pure [27] (fun v => v = (Fl r3)),
    Fact.pure [] (fun v => v = (Pt b21 0)),
    Fact.pure [29] (fun v => v = (Fl r7)),
    Fact.pure [24, 26, 28, 30] (fun v => ∃ r_1 : Nat, v = (Fl r_1) ∧ cf .f32 r_1 = fop .sub .f32 (fop .mul .f32 (cf .f32 r1) (cf .f32 r9)) (fop .mul .f32 (cf .f32 r3) (cf .f32 r7))),
    Fact.pure [13, 22, 31] (fun v => ∃ r_1 : Nat, ∃ r_2 : Nat, ∃ r_3 : Nat, v = (.agg #[(Fl r_1), (Fl r_2), (Fl r_3)]) ∧ cf .f32 r_1 = fop .sub .f32 (fop .mul .f32 (cf .f32 r3) (cf .f32 r11)) (fop .mul .f32 (cf .f32 r5) (cf .f32 r9)) ∧ cf .f32 r_2 = fop .sub .f32 (fop .mul .f32 (cf .f32 r5) (cf .f32 r7)) (fop .mul .f32 (cf .f32 r1) (cf .f32 r11)) ∧ cf .f32 r_3 = fop .sub .f32 (fop .mul .f32 (cf .f32 r1) (cf .f32 r9)) (fop .mul .f32 (cf .f32 r3) (cf .f32 r7)))]) mixed (by kernel_rfl) (by intro _ _ d _ _ h; cases d <;> exact h) ?_
  obtain ⟨w39, hw41⟩ : ∃ w', w' = World.drew w33 := ⟨_, rfl⟩; rw [← hw41]; have E40 : Ext w33 w39 := by rw [hw41]; exact Ext.draw _
  clear hw41
  have X42 := Ext.gr X37 E40
  refine RW_d _ rfl (fun v => by dsimp only [List.set]; try rfl) (fun u hu hF => ?_) (fun v43 => ?_)
  · clear hF
    refine doesG_un rfl ?_
    refine (does_fieldAddr (ev rfl) fa40_1).mono ?_; rintro _ _ ⟨rfl, rfl⟩
    exact ⟨rfl, Ext.refl _⟩
  refine RW_d _ rfl (fun v => by dsimp only [List.set]; try rfl) (fun u hu hF => ?_) (fun v44 => ?_)
  · have h5_ : v43 = (Pt b14 1) := hF.1
    clear hF
    refine doesG_un rfl ?_
    obtain rfl := h5_
    refine (does_load (u := (Fl r3)) (ev rfl) Try.isAgg38 (Cells.at (Blk.cells ((((hB16.ext E24).ext E32).ext E40).ext hu)) 1 rfl)).mono ?_; rintro _ _ ⟨rfl, rfl⟩
    exact ⟨rfl, Ext.refl _⟩
  refine RW_d _ rfl (fun v => by dsimp only [List.set]; try rfl) (fun u hu hF => ?_) (fun v45 => ?_)
  · clear hF
    refine doesG_un rfl ?_
    refine (does_fieldAddr (ev rfl) fa40_2).mono ?_; rintro _ _ ⟨rfl, rfl⟩
    exact ⟨rfl, Ext.refl _⟩
  refine RW_d _ rfl (fun v => by dsimp only [List.set]; try rfl) (fun u hu hF => ?_) (fun v46 => ?_)
  · have h7_ : v45 = (Pt b21 2) := hF.1
    clear hF
    refine doesG_un rfl ?_
    obtain rfl := h7_
    refine (does_load (u := (Fl r11)) (ev rfl) Try.isAgg38 (Cells.at (Blk.cells (((hB23.ext E32).ext E40).ext hu)) 2 rfl)).mono ?_; rintro _ _ ⟨rfl, rfl⟩
    exact ⟨rfl, Ext.refl _⟩
  refine RW_d _ rfl (fun v => by dsimp only [List.set]; try rfl) (fun u hu hF => ?_) (fun v47 => ?_)
  · clear hF
    refine doesG_un rfl ?_
    refine (does_fieldAddr (ev rfl) fa40_2).mono ?_; rintro _ _ ⟨rfl, rfl⟩
    exact ⟨rfl, Ext.refl _⟩
  refine RW_d _ rfl (fun v => by dsimp only [List.set]; try rfl) (fun u hu hF => ?_) (fun v48 => ?_)
  · have h9_ : v47 = (Pt b14 2) := hF.1
    clear hF
    refine doesG_un rfl ?_
    obtain rfl := h9_
    refine (does_load (u := (Fl r5)) (ev rfl) Try.isAgg38 (Cells.at (Blk.cells ((((hB16.ext E24).ext E32).ext E40).ext hu)) 2 rfl)).mono ?_; rintro _ _ ⟨rfl, rfl⟩
    exact ⟨rfl, Ext.refl _⟩
  refine RW_d _ rfl (fun v => by dsimp only [List.set]; try rfl) (fun u hu hF => ?_) (fun v49 => ?_)
  · clear hF
    refine doesG_un rfl ?_
    refine (does_fieldAddr (ev rfl) fa40_1).mono ?_; rintro _ _ ⟨rfl, rfl⟩
    exact ⟨rfl, Ext.refl _⟩
  refine RW_d _ rfl (fun v => by dsimp only [List.set]; try rfl) (fun u hu hF => ?_) (fun v50 => ?_)
  · have h11_ : v49 = (Pt b21 1) := hF.1
    clear hF
    refine doesG_un rfl ?_
    obtain rfl := h11_
    refine (does_load (u := (Fl r9)) (ev rfl) Try.isAgg38 (Cells.at (Blk.cells (((hB23.ext E32).ext E40).ext hu)) 1 rfl)).mono ?_; rintro _ _ ⟨rfl, rfl⟩
    exact ⟨rfl, Ext.refl _⟩
  refine RW_d _ rfl (fun v => by dsimp only [List.set]; try rfl) (fun u hu hF => ?_) (fun v51 => ?_)
  · have h6_ : v44 = (Fl r3) := hF.1
    have h8_ : v46 = (Fl r11) := hF.2.1
    have h10_ : v48 = (Fl r5) := hF.2.2.1
    have h12_ : v50 = (Fl r9) := hF.2.2.2.1
    clear hF
    refine doesG_un rfl ?_
    obtain rfl := h6_
    obtain rfl := h8_
    obtain rfl := h10_
    obtain rfl := h12_
    refine (does_call (args := #[(Fl r3), (Fl r11), (Fl r5), (Fl r9)]) cal113 (evs rfl) (c_impl_crossed r3 r11 r5 r9 _)).mono ?_; rintro v u' ⟨hx, ⟨rn1, hv, k0⟩⟩
    exact ⟨⟨rn1, hv, (by simp only [k0])⟩, hx⟩
  refine RW_d _ rfl (fun v => by dsimp only [List.set]; try rfl) (fun u hu hF => ?_) (fun v52 => ?_)
  · clear hF
    refine doesG_un rfl ?_
    refine (does_fieldAddr (ev rfl) fa40_2).mono ?_; rintro _ _ ⟨rfl, rfl⟩
    exact ⟨rfl, Ext.refl _⟩
  refine RW_d _ rfl (fun v => by dsimp only [List.set]; try rfl) (fun u hu hF => ?_) (fun v53 => ?_)
  · have h14_ : v52 = (Pt b14 2) := hF.1
    clear hF
    refine doesG_un rfl ?_
    obtain rfl := h14_
    refine (does_load (u := (Fl r5)) (ev rfl) Try.isAgg38 (Cells.at (Blk.cells ((((hB16.ext E24).ext E32).ext E40).ext hu)) 2 rfl)).mono ?_; rintro _ _ ⟨rfl, rfl⟩
    exact ⟨rfl, Ext.refl _⟩
  refine RW_d _ rfl (fun v => by dsimp only [List.set]; try rfl) (fun u hu hF => ?_) (fun v54 => ?_)
  · clear hF
    refine doesG_un rfl ?_
    refine (does_fieldAddr (ev rfl) fa40_0).mono ?_; rintro _ _ ⟨rfl, rfl⟩
    exact ⟨rfl, Ext.refl _⟩
  refine RW_d _ rfl (fun v => by dsimp only [List.set]; try rfl) (fun u hu hF => ?_) (fun v55 => ?_)
  · have h16_ : v54 = (Pt b21 0) := hF.1
    clear hF
    refine doesG_un rfl ?_
    obtain rfl := h16_
    refine (does_load (u := (Fl r7)) (ev rfl) Try.isAgg38 (Cells.at (Blk.cells (((hB23.ext E32).ext E40).ext hu)) 0 rfl)).mono ?_; rintro _ _ ⟨rfl, rfl⟩
    exact ⟨rfl, Ext.refl _⟩
  refine RW_d _ rfl (fun v => by dsimp only [List.set]; try rfl) (fun u hu hF => ?_) (fun v56 => ?_)
  · clear hF
    refine doesG_un rfl ?_
    refine (does_fieldAddr (ev rfl) fa40_0).mono ?_; rintro _ _ ⟨rfl, rfl⟩
    exact ⟨rfl, Ext.refl _⟩
  refine RW_d _ rfl (fun v => by dsimp only [List.set]; try rfl) (fun u hu hF => ?_) (fun v57 => ?_)
  · have h18_ : v56 = (Pt b14 0) := hF.1
    clear hF
    refine doesG_un rfl ?_
    obtain rfl := h18_
    refine (does_load (u := (Fl r1)) (ev rfl) Try.isAgg38 (Cells.at (Blk.cells ((((hB16.ext E24).ext E32).ext E40).ext hu)) 0 rfl)).mono ?_; rintro _ _ ⟨rfl, rfl⟩
    exact ⟨rfl, Ext.refl _⟩
  refine RW_d _ rfl (fun v => by dsimp only [List.set]; try rfl) (fun u hu hF => ?_) (fun v58 => ?_)
  · clear hF
    refine doesG_un rfl ?_
    refine (does_fieldAddr (ev rfl) fa40_2).mono ?_; rintro _ _ ⟨rfl, rfl⟩
    exact ⟨rfl, Ext.refl _⟩
  refine RW_d _ rfl (fun v => by dsimp only [List.set]; try rfl) (fun u hu hF => ?_) (fun v59 => ?_)
  · have h20_ : v58 = (Pt b21 2) := hF.1
    clear hF
    refine doesG_un rfl ?_
    obtain rfl := h20_
    refine (does_load (u := (Fl r11)) (ev rfl) Try.isAgg38 (Cells.at (Blk.cells (((hB23.ext E32).ext E40).ext hu)) 2 rfl)).mono ?_; rintro _ _ ⟨rfl, rfl⟩
    exact ⟨rfl, Ext.refl _⟩
  refine RW_d _ rfl (fun v => by dsimp only [List.set]; try rfl) (fun u hu hF => ?_) (fun v60 => ?_)
  · have h15_ : v53 = (Fl r5) := hF.1
    have h17_ : v55 = (Fl r7) := hF.2.1
    have h19_ : v57 = (Fl r1) := hF.2.2.1
    have h21_ : v59 = (Fl r11) := hF.2.2.2.1
    clear hF
    refine doesG_un rfl ?_
    obtain rfl := h15_
    obtain rfl := h17_
    obtain rfl := h19_
    obtain rfl := h21_
    refine (does_call (args := #[(Fl r5), (Fl r7), (Fl r1), (Fl r11)]) cal113 (evs rfl) (c_impl_crossed r5 r7 r1 r11 _)).mono ?_; rintro v u' ⟨hx, ⟨rn1, hv, k0⟩⟩
    exact ⟨⟨rn1, hv, (by simp only [k0])⟩, hx⟩
  refine RW_d _ rfl (fun v => by dsimp only [List.set]; try rfl) (fun u hu hF => ?_) (fun v61 => ?_)
  · clear hF
    refine doesG_un rfl ?_
    refine (does_fieldAddr (ev rfl) fa40_0).mono ?_; rintro _ _ ⟨rfl, rfl⟩
    exact ⟨rfl, Ext.refl _⟩
  refine RW_d _ rfl (fun v => by dsimp only [List.set]; try rfl) (fun u hu hF => ?_) (fun v62 => ?_)
  · have h23_ : v61 = (Pt b14 0) := hF.1
    clear hF
    refine doesG_un rfl ?_
    obtain rfl := h23_
    refine (does_load (u := (Fl r1)) (ev rfl) Try.isAgg38 (Cells.at (Blk.cells ((((hB16.ext E24).ext E32).ext E40).ext hu)) 0 rfl)).mono ?_; rintro _ _ ⟨rfl, rfl⟩
    exact ⟨rfl, Ext.refl _⟩
  refine RW_d _ rfl (fun v => by dsimp only [List.set]; try rfl) (fun u hu hF => ?_) (fun v63 => ?_)
  · clear hF
    refine doesG_un rfl ?_
    refine (does_fieldAddr (ev rfl) fa40_1).mono ?_; rintro _ _ ⟨rfl, rfl⟩
    exact ⟨rfl, Ext.refl _⟩
  refine RW_d _ rfl (fun v => by dsimp only [List.set]; try rfl) (fun u hu hF => ?_) (fun v64 => ?_)
  · have h25_ : v63 = (Pt b21 1) := hF.1
    clear hF
    refine doesG_un rfl ?_
    obtain rfl := h25_
    refine (does_load (u := (Fl r9)) (ev rfl) Try.isAgg38 (Cells.at (Blk.cells (((hB23.ext E32).ext E40).ext hu)) 1 rfl)).mono ?_; rintro _ _ ⟨rfl, rfl⟩
    exact ⟨rfl, Ext.refl _⟩
  refine RW_d _ rfl (fun v => by dsimp only [List.set]; try rfl) (fun u hu hF => ?_) (fun v65 => ?_)
  · clear hF
    refine doesG_un rfl ?_
    refine (does_fieldAddr (ev rfl) fa40_1).mono ?_; rintro _ _ ⟨rfl, rfl⟩
    exact ⟨rfl, Ext.refl _⟩
  refine RW_d _ rfl (fun v => by dsimp only [List.set]; try rfl) (fun u hu hF => ?_) (fun v66 => ?_)
  · have h27_ : v65 = (Pt b14 1) := hF.1
    clear hF
    refine doesG_un rfl ?_
    obtain rfl := h27_
    refine (does_load (u := (Fl r3)) (ev rfl) Try.isAgg38 (Cells.at (Blk.cells ((((hB16.ext E24).ext E32).ext E40).ext hu)) 1 rfl)).mono ?_; rintro _ _ ⟨rfl, rfl⟩
    exact ⟨rfl, Ext.refl _⟩
  refine RW_d _ rfl (fun v => by dsimp only [List.set]; try rfl) (fun u hu hF => ?_) (fun v67 => ?_)
  · clear hF
    refine doesG_un rfl ?_
    refine (does_fieldAddr (ev rfl) fa40_0).mono ?_; rintro _ _ ⟨rfl, rfl⟩
    exact ⟨rfl, Ext.refl _⟩
  refine RW_d _ rfl (fun v => by dsimp only [List.set]; try rfl) (fun u hu hF => ?_) (fun v68 => ?_)
  · have h29_ : v67 = (Pt b21 0) := hF.1
    clear hF
    refine doesG_un rfl ?_
    obtain rfl := h29_
    refine (does_load (u := (Fl r7)) (ev rfl) Try.isAgg38 (Cells.at (Blk.cells (((hB23.ext E32).ext E40).ext hu)) 0 rfl)).mono ?_; rintro _ _ ⟨rfl, rfl⟩
    exact ⟨rfl, Ext.refl _⟩
  refine RW_d _ rfl (fun v => by dsimp only [List.set]; try rfl) (fun u hu hF => ?_) (fun v69 => ?_)
  · have h24_ : v62 = (Fl r1) := hF.1
    have h26_ : v64 = (Fl r9) := hF.2.1
    have h28_ : v66 = (Fl r3) := hF.2.2.1
    have h30_ : v68 = (Fl r7) := hF.2.2.2.1
    clear hF
    refine doesG_un rfl ?_
    obtain rfl := h24_
    obtain rfl := h26_
    obtain rfl := h28_
    obtain rfl := h30_
    refine (does_call (args := #[(Fl r1), (Fl r9), (Fl r3), (Fl r7)]) cal113 (evs rfl) (c_impl_crossed r1 r9 r3 r7 _)).mono ?_; rintro v u' ⟨hx, ⟨rn1, hv, k0⟩⟩
    exact ⟨⟨rn1, hv, (by simp only [k0])⟩, hx⟩
  refine RW_d _ rfl (fun v => by dsimp only [List.set]; try rfl) (fun u hu hF => ?_) (fun v70 => ?_)
  · have h13_ : ∃ r_1 : Nat, v51 = (Fl r_1) ∧ cf .f32 r_1 = fop .sub .f32 (fop .mul .f32 (cf .f32 r3) (cf .f32 r11)) (fop .mul .f32 (cf .f32 r5) (cf .f32 r9)) := hF.1
    have h22_ : ∃ r_1 : Nat, v60 = (Fl r_1) ∧ cf .f32 r_1 = fop .sub .f32 (fop .mul .f32 (cf .f32 r5) (cf .f32 r7)) (fop .mul .f32 (cf .f32 r1) (cf .f32 r11)) := hF.2.1
    have h31_ : ∃ r_1 : Nat, v69 = (Fl r_1) ∧ cf .f32 r_1 = fop .sub .f32 (fop .mul .f32 (cf .f32 r1) (cf .f32 r9)) (fop .mul .f32 (cf .f32 r3) (cf .f32 r7)) := hF.2.2.1
    clear hF
    refine doesG_un rfl ?_
    obtain ⟨r13_1, rfl, h13_2⟩ := h13_
    obtain ⟨r22_1, rfl, h22_2⟩ := h22_
    obtain ⟨r31_1, rfl, h31_2⟩ := h31_
    refine (does_build (parts' := [(0, (Fl r13_1)), (1, (Fl r22_1)), (2, (Fl r31_1))]) (cells := #[(Fl r13_1), (Fl r22_1), (Fl r31_1)]) (evp rfl) (by kernel_rfl)).mono ?_; rintro _ _ ⟨rfl, rfl⟩
    exact ⟨⟨r13_1, r22_1, r31_1, rfl, (by simp only [h13_2, h22_2, h31_2]), (by simp only [h13_2, h22_2, h31_2]), (by simp only [h13_2, h22_2, h31_2])⟩, Ext.refl _⟩
  refine RW_fin ?_; intro w71 E72 hP73
  obtain ⟨⟨⟨⟨⟨⟨⟨⟨⟨⟨⟨⟨⟨⟨⟨⟨⟨⟨⟨⟨⟨⟨⟨⟨⟨⟨⟨⟨-, -⟩, -⟩, -⟩, -⟩, -⟩, -⟩, -⟩, -⟩, -⟩, -⟩, -⟩, -⟩, -⟩, -⟩, -⟩, -⟩, -⟩, -⟩, -⟩, -⟩, -⟩, -⟩, -⟩, -⟩, -⟩, -⟩, -⟩, q74⟩ := hP73
  have X75 := Ext.gr X42 E72
  have q74 : ∃ r_1 : Nat, ∃ r_2 : Nat, ∃ r_3 : Nat, v70 = (.agg #[(Fl r_1), (Fl r_2), (Fl r_3)]) ∧ cf .f32 r_1 = fop .sub .f32 (fop .mul .f32 (cf .f32 r3) (cf .f32 r11)) (fop .mul .f32 (cf .f32 r5) (cf .f32 r9)) ∧ cf .f32 r_2 = fop .sub .f32 (fop .mul .f32 (cf .f32 r5) (cf .f32 r7)) (fop .mul .f32 (cf .f32 r1) (cf .f32 r11)) ∧ cf .f32 r_3 = fop .sub .f32 (fop .mul .f32 (cf .f32 r1) (cf .f32 r9)) (fop .mul .f32 (cf .f32 r3) (cf .f32 r7)) := q74
  obtain ⟨r76, r78, r80, rfl, h77, h79, h81⟩ := q74
  show wpList _ _ _ _ (fr [_, _, _, _, _, _, _, _, _, _, _, _, _, _, _, _, _, _, _, _, _, _, _, _, _, _, _, _, _, _, _, _, _]) _
  refine seqn rfl rfl (does_store (n := 3) (cs := [(Fl 0), (Fl 0), (Fl 0)]) (u := (.agg #[(Fl r76), (Fl r78), (Fl r80)])) (ev rfl) (ev rfl) Try.sizeOf40 rfl ((hB31.ext E40).ext E72) (Nat.le_of_ble_eq_true rfl) rfl) ?_; rintro _ w84 ⟨rfl, W82, hB83⟩
  change Blk _ _ [(Fl r76), (Fl r78), (Fl r80)] at hB83
  have X85 := Below.wr X75 W82 g36
  refine wpList_nil (hK38 _ _ ?_)
  refine wp_ret ?_
  refine ret_val (v := (.agg #[(Fl r76), (Fl r78), (Fl r80)])) (res_C rfl (slot rfl) (run_loadAgg (cs := [(Fl r76), (Fl r78), (Fl r80)]) Try.isAgg40 Try.sizeOf40 (Blk.cells hB83) rfl)) X85 ?_
  have x86 : cf .f32 r76 = (crossF A_a A_b).x := by first | with_reducible rfl | (simp only [crossF, h2, h4, h6, h8, h10, h12, h77, h79, h81]; done) | (simp [crossF, h2, h4, h6, h8, h10, h12, h77, h79, h81]; done) | rfl
  have x87 : cf .f32 r78 = (crossF A_a A_b).y := by first | with_reducible rfl | (simp only [crossF, h2, h4, h6, h8, h10, h12, h77, h79, h81]; done) | (simp [crossF, h2, h4, h6, h8, h10, h12, h77, h79, h81]; done) | rfl
  have x88 : cf .f32 r80 = (crossF A_a A_b).z := by first | with_reducible rfl | (simp only [crossF, h2, h4, h6, h8, h10, h12, h77, h79, h81]; done) | (simp [crossF, h2, h4, h6, h8, h10, h12, h77, h79, h81]; done) | rfl
  exact ⟨[(Fl r76), (Fl r78), (Fl r80)], rfl, ⟨r76, r78, r80, rfl, x86, x87, x88⟩⟩

/- (*impl.Camera).axes -/
theorem c_impl_Camera_axes (c_b : Nat) (c_o : Nat) (c : List Value) (A_c : CamT) (w : World) (hc_c : Cells w c_b c_o c) (hv_c : RCamT w A_c c) : Gives Try.prog 75 #[(Pt c_b c_o)] w (fun v w' => ∃ cs_1 : List Value, ∃ cs_2 : List Value, ∃ cs_3 : List Value, v = (.tuple #[(.agg cs_1.toArray), (.agg cs_2.toArray), (.agg cs_3.toArray)]) ∧ RV3 w (rgtC A_c) cs_1 ∧ RV3 w (upC A_c) cs_2 ∧ RV3 w (fwdC A_c) cs_3) := by
  obtain ⟨r1, r3, r5, r7, r9, r11, r13, rfl, h2, h4, h6, h8, h10, h12, h14⟩ := hv_c
  refine enter [(Pt c_b c_o), Ud, Ud, Ud, Ud, Ud, Ud, Ud, Ud, Ud, Ud, Ud, Ud, Ud, Ud, Ud, Ud, Ud, Ud, Ud, Ud, Ud, Ud, Ud, Ud, Ud] Try.func75 rfl Try.ntmps75 rfl ?_
  refine wp_seq_k fun K15 hK15 => ?_
  refine wp_region_lit ?_
  refine seqd rfl rfl (does_alloc z40) ?_; rintro _ w20 ⟨b16, rfl, hb17, hB18, E19⟩
  have n21 : c_b < b16 := Nat.lt_of_lt_of_le (cell_lt (Cells.at hc_c 0 rfl)) hb17
  have g22 : w.heap.size ≤ b16 := Nat.le_trans (Below.size (Ext.refl w)) hb17
  change Blk _ _ [(Fl 0), (Fl 0), (Fl 0)] at hB18
  have X23 := Ext.gr (Ext.refl w) E19
  show wpList _ _ _ _ (fr [_, _, _, _, _, _, _, _, _, _, _, _, _, _, _, _, _, _, _, _, _, _, _, _, _, _]) _
  refine seqd rfl rfl (does_alloc z40) ?_; rintro _ w28 ⟨b24, rfl, hb25, hB26, E27⟩
  have n29 : c_b < b24 := Nat.lt_of_lt_of_le (cell_lt (Cells.at (hc_c.ext X23) 0 rfl)) hb25
  have n30 : b16 < b24 := Nat.lt_of_lt_of_le (Blk.lt hB18) hb25
  have g31 : w.heap.size ≤ b24 := Nat.le_trans (Below.size X23) hb25
  change Blk _ _ [(Fl 0), (Fl 0), (Fl 0)] at hB26
  have X32 := Ext.gr X23 E27
  show wpList _ _ _ _ (fr [_, _, _, _, _, _, _, _, _, _, _, _, _, _, _, _, _, _, _, _, _, _, _, _, _, _]) _
  refine seqd rfl rfl (does_alloc z40) ?_; rintro _ w37 ⟨b33, rfl, hb34, hB35, E36⟩
  have n38 : c_b < b33 := Nat.lt_of_lt_of_le (cell_lt (Cells.at (hc_c.ext X32) 0 rfl)) hb34
  have n39 : b16 < b33 := Nat.lt_of_lt_of_le (Blk.lt (hB18.ext E27)) hb34
  have n40 : b24 < b33 := Nat.lt_of_lt_of_le (Blk.lt hB26) hb34
  have g41 : w.heap.size ≤ b33 := Nat.le_trans (Below.size X32) hb34
  change Blk _ _ [(Fl 0), (Fl 0), (Fl 0)] at hB35
  have X42 := Ext.gr X32 E36
  show wpList _ _ _ _ (fr [_, _, _, _, _, _, _, _, _, _, _, _, _, _, _, _, _, _, _, _, _, _, _, _, _, _]) _
  refine wpList_nil (hK15 _ _ ?_)
  refine wp_seq_k fun K43 hK43 => ?_
  refine region_draw (
    [Fact.pure [] (fun v => v = (Pt c_b c_o)),
    Fact.pure [7] (fun v => v = (Pt c_b c_o)),
    Fact.pure [8] (fun v => v = (Pt c_b (c_o + 3))),
    Fact.pure [9] (fun v => v = (.agg #[(Fl r7), (Fl r9), (Fl r11)])),
    Fact.pure [] (fun v => v = (Pt c_b c_o)),
    Fact.pure [11] (fun v => v = (Pt c_b c_o)),
    Fact.pure [12] (fun v => v = (Pt c_b c_o)),
    Fact.pure [13] (fun v => v = (.agg #[(Fl r1), (Fl r3), (Fl r5)])),
    Fact.pure [10, 14] (fun v => ∃ cs_1 : List Value, v = (.agg cs_1.toArray) ∧ RV3 w (vsub A_c.to A_c.frm) cs_1),
    Fact.pure [15] (fun v => ∃ cs_1 : List Value, v = (.agg cs_1.toArray) ∧ RV3 w (unitF (vsub A_c.to A_c.frm)) cs_1),
    Fact.mem [] (fun v w' => ∃ b : Nat, v = .pointer (some ⟨b, 0, none⟩) ∧ w37.heap.size ≤ b ∧ Blk w' b [(Fl 0), (Fl 0), (Fl 0)]) (by rintro v w1 w2 hx ⟨b, rfl, hb, hB⟩; exact ⟨b, rfl, hb, (hB.ext hx)⟩)]) mixed (by kernel_rfl) (by intro _ _ d _ _ h; cases d <;> exact h) ?_
  obtain ⟨w44, hw46⟩ : ∃ w', w' = World.drew w37 := ⟨_, rfl⟩; rw [← hw46]; have E45 : Ext w37 w44 := by rw [hw46]; exact Ext.draw _
  clear hw46
  have X47 := Ext.gr X42 E45
  refine RW_d _ rfl (fun v => by dsimp only [List.set]; try rfl) (fun u hu hF => ?_) (fun v48 => ?_)
  · clear hF
    refine doesG_un rfl ?_
    refine (does_move (u := (Pt c_b c_o)) (ev rfl)).mono ?_; rintro _ _ ⟨rfl, rfl⟩
    exact ⟨rfl, Ext.refl _⟩
  refine RW_d _ rfl (fun v => by dsimp only [List.set]; try rfl) (fun u hu hF => ?_) (fun v49 => ?_)
  · have h7_ : v48 = (Pt c_b c_o) := hF.1
    clear hF
    refine doesG_un rfl ?_
    obtain rfl := h7_
    refine (does_nilCheck (ev rfl)).mono ?_; rintro _ _ ⟨rfl, rfl⟩
    exact ⟨rfl, Ext.refl _⟩
  refine RW_d _ rfl (fun v => by dsimp only [List.set]; try rfl) (fun u hu hF => ?_) (fun v50 => ?_)
  · have h8_ : v49 = (Pt c_b c_o) := hF.1
    clear hF
    refine doesG_un rfl ?_
    obtain rfl := h8_
    refine (does_fieldAddr (ev rfl) fa60_1).mono ?_; rintro _ _ ⟨rfl, rfl⟩
    exact ⟨rfl, Ext.refl _⟩
  refine RW_d _ rfl (fun v => by dsimp only [List.set]; try rfl) (fun u hu hF => ?_) (fun v51 => ?_)
  · have h9_ : v50 = (Pt c_b (c_o + 3)) := hF.1
    clear hF
    refine doesG_un rfl ?_
    obtain rfl := h9_
    refine (does_loadAgg (cs := [(Fl r7), (Fl r9), (Fl r11)]) (ev rfl) Try.isAgg40 Try.sizeOf40 (Cells.sub ((hc_c.ext (Ext.gr X42 E45)).ext hu) 3 3) rfl).mono ?_; rintro _ _ ⟨rfl, rfl⟩
    exact ⟨rfl, Ext.refl _⟩
  refine RW_d _ rfl (fun v => by dsimp only [List.set]; try rfl) (fun u hu hF => ?_) (fun v52 => ?_)
  · clear hF
    refine doesG_un rfl ?_
    refine (does_move (u := (Pt c_b c_o)) (ev rfl)).mono ?_; rintro _ _ ⟨rfl, rfl⟩
    exact ⟨rfl, Ext.refl _⟩
  refine RW_d _ rfl (fun v => by dsimp only [List.set]; try rfl) (fun u hu hF => ?_) (fun v53 => ?_)
  · have h11_ : v52 = (Pt c_b c_o) := hF.1
    clear hF
    refine doesG_un rfl ?_
    obtain rfl := h11_
    refine (does_nilCheck (ev rfl)).mono ?_; rintro _ _ ⟨rfl, rfl⟩
    exact ⟨rfl, Ext.refl _⟩
  refine RW_d _ rfl (fun v => by dsimp only [List.set]; try rfl) (fun u hu hF => ?_) (fun v54 => ?_)
  · have h12_ : v53 = (Pt c_b c_o) := hF.1
    clear hF
    refine doesG_un rfl ?_
    obtain rfl := h12_
    refine (does_fieldAddr (ev rfl) fa60_0).mono ?_; rintro _ _ ⟨rfl, rfl⟩
    exact ⟨rfl, Ext.refl _⟩
  refine RW_d _ rfl (fun v => by dsimp only [List.set]; try rfl) (fun u hu hF => ?_) (fun v55 => ?_)
  · have h13_ : v54 = (Pt c_b c_o) := hF.1
    clear hF
    refine doesG_un rfl ?_
    obtain rfl := h13_
    refine (does_loadAgg (cs := [(Fl r1), (Fl r3), (Fl r5)]) (ev rfl) Try.isAgg40 Try.sizeOf40 (Cells.sub ((hc_c.ext (Ext.gr X42 E45)).ext hu) 0 3) rfl).mono ?_; rintro _ _ ⟨rfl, rfl⟩
    exact ⟨rfl, Ext.refl _⟩
  refine RW_d _ rfl (fun v => by dsimp only [List.set]; try rfl) (fun u hu hF => ?_) (fun v56 => ?_)
  · have h10_ : v51 = (.agg #[(Fl r7), (Fl r9), (Fl r11)]) := hF.1
    have h14_ : v55 = (.agg #[(Fl r1), (Fl r3), (Fl r5)]) := hF.2.1
    clear hF
    refine doesG_un rfl ?_
    obtain rfl := h10_
    obtain rfl := h14_
    refine (does_call (args := #[(.agg #[(Fl r7), (Fl r9), (Fl r11)]), (.agg #[(Fl r1), (Fl r3), (Fl r5)])]) cal98 (evs rfl) (c_impl_LessVectors [(Fl r7), (Fl r9), (Fl r11)] A_c.to [(Fl r1), (Fl r3), (Fl r5)] A_c.frm _ ⟨r7, r9, r11, rfl, h8, h10, h12⟩ ⟨r1, r3, r5, rfl, h2, h4, h6⟩)).mono ?_; rintro v u' ⟨hx, ⟨csn1, hv, k0⟩⟩
    exact ⟨⟨csn1, hv, k0⟩, hx⟩
  refine RW_d _ rfl (fun v => by dsimp only [List.set]; try rfl) (fun u hu hF => ?_) (fun v57 => ?_)
  · have h15_ : ∃ cs_1 : List Value, v56 = (.agg cs_1.toArray) ∧ RV3 w (vsub A_c.to A_c.frm) cs_1 := hF.1
    clear hF
    refine doesG_un rfl ?_
    obtain ⟨_, rfl, ⟨r15_1, r15_3, r15_5, rfl, h15_2, h15_4, h15_6⟩⟩ := h15_
    refine (does_call (args := #[(.agg #[(Fl r15_1), (Fl r15_3), (Fl r15_5)])]) cal97 (evs rfl) (c_impl_UnitOf [(Fl r15_1), (Fl r15_3), (Fl r15_5)] (vsub A_c.to A_c.frm) _ ⟨r15_1, r15_3, r15_5, rfl, (by assumption), (by assumption), (by assumption)⟩)).mono ?_; rintro v u' ⟨hx, ⟨csn1, hv, k0⟩⟩
    exact ⟨⟨csn1, hv.trans (by simp only [h15_2, h15_4, h15_6]), (by first | exact k0 | simpa only [h15_2, h15_4, h15_6] using RV3.any (w := w) k0)⟩, hx⟩
  refine RW_d _ rfl (fun v => by dsimp only [List.set]; try rfl) (fun u hu hF => ?_) (fun v58 => ?_)
  · clear hF
    refine doesG_un rfl ?_
    refine (does_alloc z40).mono ?_; rintro _ _ ⟨b, rfl, hb, hB, hx⟩
    exact ⟨⟨b, rfl, Nat.le_trans (Nat.le_trans (Below.size E45) (Below.size hu)) hb, hB⟩, hx⟩
  refine RW_fin ?_; intro w59 E60 hP61
  obtain ⟨⟨⟨⟨⟨⟨⟨⟨⟨⟨⟨-, -⟩, -⟩, -⟩, -⟩, -⟩, -⟩, -⟩, -⟩, -⟩, q62⟩, q63⟩ := hP61
  have X64 := Ext.gr X47 E60
  have q62 : ∃ cs_1 : List Value, v57 = (.agg cs_1.toArray) ∧ RV3 w (unitF (vsub A_c.to A_c.frm)) cs_1 := q62
  obtain ⟨_, rfl, ⟨r65, r67, r69, rfl, h66, h68, h70⟩⟩ := q62
  have q63 : ∃ b : Nat, v58 = .pointer (some ⟨b, 0, none⟩) ∧ w37.heap.size ≤ b ∧ Blk w59 b [(Fl 0), (Fl 0), (Fl 0)] := q63
  obtain ⟨b71, rfl, hb72, hB73⟩ := q63
  have n74 : c_b < b71 := Nat.lt_of_lt_of_le (cell_lt (Cells.at (hc_c.ext X42) 0 rfl)) hb72
  have n75 : b16 < b71 := Nat.lt_of_lt_of_le (Blk.lt ((hB18.ext E27).ext E36)) hb72
  have n76 : b24 < b71 := Nat.lt_of_lt_of_le (Blk.lt (hB26.ext E36)) hb72
  have n77 : b33 < b71 := Nat.lt_of_lt_of_le (Blk.lt hB35) hb72
  have g78 : w.heap.size ≤ b71 := Nat.le_trans (Below.size X42) hb72
  show wpList _ _ _ _ (fr [_, _, _, _, _, _, _, _, _, _, _, _, _, _, _, _, _, _, _, _, _, _, _, _, _, _]) _
  refine seqn rfl rfl (does_store (n := 3) (cs := [(Fl 0), (Fl 0), (Fl 0)]) (u := (.agg #[(Fl r65), (Fl r67), (Fl r69)])) (ev rfl) (ev rfl) Try.sizeOf40 rfl hB73 (Nat.le_of_ble_eq_true rfl) rfl) ?_; rintro _ w81 ⟨rfl, W79, hB80⟩
  change Blk _ _ [(Fl r65), (Fl r67), (Fl r69)] at hB80
  have X82 := Below.wr X64 W79 g78
  refine wpList_nil (hK43 _ _ ?_)
  refine wp_seq_k fun K83 hK83 => ?_
  refine wp_region_lit ?_
  refine q_is rfl rfl (does_loadAgg (cs := [(Fl r65), (Fl r67), (Fl r69)]) (ev rfl) Try.isAgg40 Try.sizeOf40 (Blk.cells hB80) rfl) (by dsimp only [List.set]; try rfl) ?_
  refine q_is rfl rfl (does_build (parts' := [(0, (Fl 0)), (1, (Fl 1065353216)), (2, (Fl 0))]) (cells := #[(Fl 0), (Fl 1065353216), (Fl 0)]) (evp rfl) (by kernel_rfl)) (by dsimp only [List.set]; try rfl) ?_
  refine seqd rfl rfl (does_call (args := #[(.agg #[(Fl r65), (Fl r67), (Fl r69)]), (.agg #[(Fl 0), (Fl 1065353216), (Fl 0)])]) cal99 (evs rfl) (c_impl_CrossOf [(Fl r65), (Fl r67), (Fl r69)] (unitF (vsub A_c.to A_c.frm)) [(Fl 0), (Fl 1065353216), (Fl 0)] (V3.mk (cf .f32 0) (cf .f32 1065353216) (cf .f32 0)) _ ⟨r65, r67, r69, rfl, h66, h68, h70⟩ ⟨0, 1065353216, 0, rfl, rfl, rfl, rfl⟩)) ?_; rintro _ w85 ⟨E84, ⟨_, rfl, ⟨r86, r88, r90, rfl, h87, h89, h91⟩⟩⟩
  have X92 := Ext.gr X82 E84
  show wpList _ _ _ _ (fr [_, _, _, _, _, _, _, _, _, _, _, _, _, _, _, _, _, _, _, _, _, _, _, _, _, _]) _
  refine seqd rfl rfl (does_call (args := #[(.agg #[(Fl r86), (Fl r88), (Fl r90)])]) cal97 (evs rfl) (c_impl_UnitOf [(Fl r86), (Fl r88), (Fl r90)] (crossF (unitF (vsub A_c.to A_c.frm)) (V3.mk (cf .f32 0) (cf .f32 1065353216) (cf .f32 0))) _ ⟨r86, r88, r90, rfl, h87, h89, h91⟩)) ?_; rintro _ w94 ⟨E93, ⟨_, rfl, ⟨r95, r97, r99, rfl, h96, h98, h100⟩⟩⟩
  have X101 := Ext.gr X92 E93
  show wpList _ _ _ _ (fr [_, _, _, _, _, _, _, _, _, _, _, _, _, _, _, _, _, _, _, _, _, _, _, _, _, _]) _
  refine seqd rfl rfl (does_alloc z40) ?_; rintro _ w106 ⟨b102, rfl, hb103, hB104, E105⟩
  have n107 : c_b < b102 := Nat.lt_of_lt_of_le (cell_lt (Cells.at (hc_c.ext X101) 0 rfl)) hb103
  have n108 : b16 < b102 := Nat.lt_of_lt_of_le (Blk.lt (((((((hB18.ext E27).ext E36).ext E45).ext E60).wr W79 (Nat.ne_of_lt n75)).ext E84).ext E93)) hb103
  have n109 : b24 < b102 := Nat.lt_of_lt_of_le (Blk.lt ((((((hB26.ext E36).ext E45).ext E60).wr W79 (Nat.ne_of_lt n76)).ext E84).ext E93)) hb103
  have n110 : b33 < b102 := Nat.lt_of_lt_of_le (Blk.lt (((((hB35.ext E45).ext E60).wr W79 (Nat.ne_of_lt n77)).ext E84).ext E93)) hb103
  have n111 : b71 < b102 := Nat.lt_of_lt_of_le (Blk.lt ((hB80.ext E84).ext E93)) hb103
  have g112 : w.heap.size ≤ b102 := Nat.le_trans (Below.size X101) hb103
  change Blk _ _ [(Fl 0), (Fl 0), (Fl 0)] at hB104
  have X113 := Ext.gr X101 E105
  show wpList _ _ _ _ (fr [_, _, _, _, _, _, _, _, _, _, _, _, _, _, _, _, _, _, _, _, _, _, _, _, _, _]) _
  refine seqn rfl rfl (does_store (n := 3) (cs := [(Fl 0), (Fl 0), (Fl 0)]) (u := (.agg #[(Fl r95), (Fl r97), (Fl r99)])) (ev rfl) (ev rfl) Try.sizeOf40 rfl hB104 (Nat.le_of_ble_eq_true rfl) rfl) ?_; rintro _ w116 ⟨rfl, W114, hB115⟩
  change Blk _ _ [(Fl r95), (Fl r97), (Fl r99)] at hB115
  have X117 := Below.wr X113 W114 g112
  refine wpList_nil (hK83 _ _ ?_)
  refine wp_seq_k fun K118 hK118 => ?_
  have n122 : b16 < w116.heap.size := Blk.lt (((((((((hB18.ext E27).ext E36).ext E45).ext E60).wr W79 (Nat.ne_of_lt n75)).ext E84).ext E93).ext E105).wr W114 (Nat.ne_of_lt n108))
  have n123 : b24 < w116.heap.size := Blk.lt ((((((((hB26.ext E36).ext E45).ext E60).wr W79 (Nat.ne_of_lt n76)).ext E84).ext E93).ext E105).wr W114 (Nat.ne_of_lt n109))
  refine region_any2 [b16, b24] [0, 0, 0, 6, 0, 15, 47, 127] [0, 1] (
    [FactW.pure [] [] [0, 1] true (fun v => v = (.agg #[(Fl r95), (Fl r97), (Fl r99)])),
      FactW.pure [] [] [0, 1] true (fun v => v = (.agg #[(Fl r95), (Fl r97), (Fl r99)])),
      FactW.pure [] [] [0, 1] true (fun v => v = (.agg #[(Fl r65), (Fl r67), (Fl r69)])),
      FactW.pure [1, 2] [] [0, 1] true (fun v => ∃ cs_1 : List Value, v = (.agg cs_1.toArray) ∧ RV3 w (crossF (unitF (crossF (unitF (vsub A_c.to A_c.frm)) (V3.mk (cf .f32 0) (cf .f32 1065353216) (cf .f32 0)))) (unitF (vsub A_c.to A_c.frm))) cs_1),
      FactW.pure [] [0, 1] [0, 1] true (fun v => v = (.agg #[(Fl r65), (Fl r67), (Fl r69)])),
      FactW.mem [0] [] [0] [1] true (fun v w' => v = undef ∧ Blk w' b16 [(Fl r95), (Fl r97), (Fl r99)]) (by rintro v w1 w2 hx ⟨rfl, h⟩; exact ⟨rfl, h.kl hx (ninS (Nat.ne_of_lt n30) nin0)⟩),
      FactW.mem [5, 3] [0] [1] [0] true (fun v w' => v = undef ∧ ∃ r_1 : Nat, ∃ r_2 : Nat, ∃ r_3 : Nat, Blk w' b24 [(Fl r_1), (Fl r_2), (Fl r_3)] ∧ cf .f32 r_1 = (crossF (unitF (crossF (unitF (vsub A_c.to A_c.frm)) (V3.mk (cf .f32 0) (cf .f32 1065353216) (cf .f32 0)))) (unitF (vsub A_c.to A_c.frm))).x ∧ cf .f32 r_2 = (crossF (unitF (crossF (unitF (vsub A_c.to A_c.frm)) (V3.mk (cf .f32 0) (cf .f32 1065353216) (cf .f32 0)))) (unitF (vsub A_c.to A_c.frm))).y ∧ cf .f32 r_3 = (crossF (unitF (crossF (unitF (vsub A_c.to A_c.frm)) (V3.mk (cf .f32 0) (cf .f32 1065353216) (cf .f32 0)))) (unitF (vsub A_c.to A_c.frm))).z) (by rintro v w1 w2 hx ⟨rfl, z0, z1, z2, h, k0, k1, k2⟩; exact ⟨rfl, z0, z1, z2, h.kl hx (ninS (Nat.ne_of_gt n30) nin0), k0, k1, k2⟩)]) mixed (by kernel_rfl) ?_
  obtain ⟨w119, hw121⟩ : ∃ w', w' = World.drew w116 := ⟨_, rfl⟩; rw [← hw121]; have E120 : Ext w116 w119 := by rw [hw121]; exact Ext.draw _
  clear hw121
  have X124 := Ext.gr X117 E120
  refine RW2_d _ rfl (fun v => by dsimp only [List.set]; try rfl) (fun u hu hF => ?_) (fun v125 => ?_)
  · replace hu : KpL [] _ _ := hu
    clear hF
    refine doesG_un rfl ?_
    refine (does_loadAgg (cs := [(Fl r95), (Fl r97), (Fl r99)]) (ev rfl) Try.isAgg40 Try.sizeOf40 (Blk.cells ((hB115.ext E120).ext (KpL.toExt hu))) rfl).mono ?_; rintro _ _ ⟨rfl, rfl⟩
    exact ⟨rfl, KpL.refl _ _⟩
  refine RW2_d _ rfl (fun v => by dsimp only [List.set]; try rfl) (fun u hu hF => ?_) (fun v126 => ?_)
  · replace hu : KpL [] _ _ := hu
    clear hF
    refine doesG_un rfl ?_
    refine (does_loadAgg (cs := [(Fl r95), (Fl r97), (Fl r99)]) (ev rfl) Try.isAgg40 Try.sizeOf40 (Blk.cells ((hB115.ext E120).ext (KpL.toExt hu))) rfl).mono ?_; rintro _ _ ⟨rfl, rfl⟩
    exact ⟨rfl, KpL.refl _ _⟩
  refine RW2_d _ rfl (fun v => by dsimp only [List.set]; try rfl) (fun u hu hF => ?_) (fun v127 => ?_)
  · replace hu : KpL [] _ _ := hu
    clear hF
    refine doesG_un rfl ?_
    refine (does_loadAgg (cs := [(Fl r65), (Fl r67), (Fl r69)]) (ev rfl) Try.isAgg40 Try.sizeOf40 (Blk.cells ((((((hB80.ext E84).ext E93).ext E105).wr W114 (Nat.ne_of_lt n111)).ext E120).ext (KpL.toExt hu))) rfl).mono ?_; rintro _ _ ⟨rfl, rfl⟩
    exact ⟨rfl, KpL.refl _ _⟩
  refine RW2_d _ rfl (fun v => by dsimp only [List.set]; try rfl) (fun u hu hF => ?_) (fun v128 => ?_)
  · replace hu : KpL [] _ _ := hu
    have h22_ : v126 = (.agg #[(Fl r95), (Fl r97), (Fl r99)]) := hF.1
    have h23_ : v127 = (.agg #[(Fl r65), (Fl r67), (Fl r69)]) := hF.2.1
    clear hF
    refine doesG_un rfl ?_
    obtain rfl := h22_
    obtain rfl := h23_
    refine (does_call (args := #[(.agg #[(Fl r95), (Fl r97), (Fl r99)]), (.agg #[(Fl r65), (Fl r67), (Fl r69)])]) cal99 (evs rfl) (c_impl_CrossOf [(Fl r95), (Fl r97), (Fl r99)] (unitF (crossF (unitF (vsub A_c.to A_c.frm)) (V3.mk (cf .f32 0) (cf .f32 1065353216) (cf .f32 0)))) [(Fl r65), (Fl r67), (Fl r69)] (unitF (vsub A_c.to A_c.frm)) _ ⟨r95, r97, r99, rfl, h96, h98, h100⟩ ⟨r65, r67, r69, rfl, h66, h68, h70⟩)).mono ?_; rintro v u' ⟨hx, ⟨csn1, hv, k0⟩⟩
    exact ⟨⟨csn1, hv, k0⟩, (KpL.of_ext hx)⟩
  refine RW2_d _ rfl (fun v => by dsimp only [List.set]; try rfl) (fun u hu hF => ?_) (fun v129 => ?_)
  · replace hu : KpL [b16, b24] _ _ := hu
    clear hF
    refine doesG_un rfl ?_
    refine (does_loadAgg (cs := [(Fl r65), (Fl r67), (Fl r69)]) (ev rfl) Try.isAgg40 Try.sizeOf40 (Blk.cells ((((((hB80.ext E84).ext E93).ext E105).wr W114 (Nat.ne_of_lt n111)).ext E120).kl hu (ninS (Nat.ne_of_gt n75) (ninS (Nat.ne_of_gt n76) nin0)))) rfl).mono ?_; rintro _ _ ⟨rfl, rfl⟩
    exact ⟨rfl, KpL.refl _ _⟩
  refine RW2_n rfl (fun u hu hF => ?_) (fun v130 => ?_)
  · replace hu : KpL [] _ _ := hu
    have h21_ : v125 = (.agg #[(Fl r95), (Fl r97), (Fl r99)]) := hF.1
    clear hF
    refine doesG_un rfl ?_
    obtain rfl := h21_
    refine (does_store (n := 3) (cs := [(Fl 0), (Fl 0), (Fl 0)]) (u := (.agg #[(Fl r95), (Fl r97), (Fl r99)])) (ev rfl) (ev rfl) Try.sizeOf40 rfl (((((((((((hB18.ext E27).ext E36).ext E45).ext E60).wr W79 (Nat.ne_of_lt n75)).ext E84).ext E93).ext E105).wr W114 (Nat.ne_of_lt n108)).ext E120).ext (KpL.toExt hu)) (Nat.le_of_ble_eq_true rfl) rfl).mono ?_; rintro _ _ ⟨rfl, hW, hB⟩
    exact ⟨⟨rfl, hB⟩, KpL.of_wr hW⟩
  refine RW2_n rfl (fun u hu hF => ?_) (fun v131 => ?_)
  · replace hu : KpL [b16] _ _ := hu
    obtain ⟨_, hs5_⟩ := hF.1
    have h24_ : ∃ cs_1 : List Value, v128 = (.agg cs_1.toArray) ∧ RV3 w (crossF (unitF (crossF (unitF (vsub A_c.to A_c.frm)) (V3.mk (cf .f32 0) (cf .f32 1065353216) (cf .f32 0)))) (unitF (vsub A_c.to A_c.frm))) cs_1 := hF.2.1
    clear hF
    refine doesG_un rfl ?_
    obtain ⟨_, rfl, ⟨r24_1, r24_3, r24_5, rfl, h24_2, h24_4, h24_6⟩⟩ := h24_
    refine (does_store (n := 3) (cs := [(Fl 0), (Fl 0), (Fl 0)]) (u := (.agg #[(Fl r24_1), (Fl r24_3), (Fl r24_5)])) (ev rfl) (ev rfl) Try.sizeOf40 rfl ((((((((((hB26.ext E36).ext E45).ext E60).wr W79 (Nat.ne_of_lt n76)).ext E84).ext E93).ext E105).wr W114 (Nat.ne_of_lt n109)).ext E120).kl hu (ninS (Nat.ne_of_gt n30) nin0)) (Nat.le_of_ble_eq_true rfl) rfl).mono ?_; rintro _ _ ⟨rfl, hW, hB⟩
    exact ⟨⟨rfl, r24_1, r24_3, r24_5, hB, (by simp only [h24_2, h24_4, h24_6]), (by simp only [h24_2, h24_4, h24_6]), (by simp only [h24_2, h24_4, h24_6])⟩, KpL.of_wr hW⟩
  refine RW2_fin ?_; intro w132 E133 hP134; replace E133 : KpL [b16, b24] _ _ := E133
  obtain ⟨⟨⟨⟨⟨⟨⟨-, -⟩, -⟩, -⟩, -⟩, q135⟩, q136⟩, q137⟩ := hP134
  have X138 := Below.kl X124 E133 (allS g22 (allS g31 all0)) (Nat.le_refl _)
  obtain ⟨_, hB139⟩ := q136 rfl
  change Blk _ _ [(Fl r95), (Fl r97), (Fl r99)] at hB139
  obtain ⟨_, r141, r142, r143, hB140, h144, h145, h146⟩ := q137 rfl
  change Blk _ _ [(Fl r141), (Fl r142), (Fl r143)] at hB140
  have q135 : v129 = (.agg #[(Fl r65), (Fl r67), (Fl r69)]) := q135 rfl
  obtain rfl := q135
  show wpList _ _ _ _ (fr [_, _, _, _, _, _, _, _, _, _, _, _, _, _, _, _, _, _, _, _, _, _, _, _, _, _]) _
  refine seqn rfl rfl (does_store (n := 3) (cs := [(Fl 0), (Fl 0), (Fl 0)]) (u := (.agg #[(Fl r65), (Fl r67), (Fl r69)])) (ev rfl) (ev rfl) Try.sizeOf40 rfl (((((((((hB35.ext E45).ext E60).wr W79 (Nat.ne_of_lt n77)).ext E84).ext E93).ext E105).wr W114 (Nat.ne_of_lt n110)).ext E120).kl E133 (ninS (Nat.ne_of_gt n39) (ninS (Nat.ne_of_gt n40) nin0))) (Nat.le_of_ble_eq_true rfl) rfl) ?_; rintro _ w149 ⟨rfl, W147, hB148⟩
  change Blk _ _ [(Fl r65), (Fl r67), (Fl r69)] at hB148
  have X150 := Below.wr X138 W147 g41
  refine wpList_nil (hK118 _ _ ?_)
  refine wp_ret ?_
  refine ret_val (v := (.tuple #[(.agg #[(Fl r95), (Fl r97), (Fl r99)]), (.agg #[(Fl r141), (Fl r142), (Fl r143)]), (.agg #[(Fl r65), (Fl r67), (Fl r69)])])) (res_CCC rfl (slot rfl) (run_loadAgg (cs := [(Fl r95), (Fl r97), (Fl r99)]) Try.isAgg40 Try.sizeOf40 (Blk.cells (hB139.wr W147 (Nat.ne_of_lt n39))) rfl) (slot rfl) (run_loadAgg (cs := [(Fl r141), (Fl r142), (Fl r143)]) Try.isAgg40 Try.sizeOf40 (Blk.cells (hB140.wr W147 (Nat.ne_of_lt n40))) rfl) (slot rfl) (run_loadAgg (cs := [(Fl r65), (Fl r67), (Fl r69)]) Try.isAgg40 Try.sizeOf40 (Blk.cells hB148) rfl)) X150 ?_
  have x151 : cf .f32 r95 = (rgtC A_c).x := by first | with_reducible rfl | (simp only [rgtC, upC, fwdC, h2, h4, h6, h8, h10, h12, h14, h66, h68, h70, h87, h89, h91, h96, h98, h100, h144, h145, h146]; done) | (simp [rgtC, upC, fwdC, h2, h4, h6, h8, h10, h12, h14, h66, h68, h70, h87, h89, h91, h96, h98, h100, h144, h145, h146]; done) | rfl
  have x152 : cf .f32 r97 = (rgtC A_c).y := by first | with_reducible rfl | (simp only [rgtC, upC, fwdC, h2, h4, h6, h8, h10, h12, h14, h66, h68, h70, h87, h89, h91, h96, h98, h100, h144, h145, h146]; done) | (simp [rgtC, upC, fwdC, h2, h4, h6, h8, h10, h12, h14, h66, h68, h70, h87, h89, h91, h96, h98, h100, h144, h145, h146]; done) | rfl
  have x153 : cf .f32 r99 = (rgtC A_c).z := by first | with_reducible rfl | (simp only [rgtC, upC, fwdC, h2, h4, h6, h8, h10, h12, h14, h66, h68, h70, h87, h89, h91, h96, h98, h100, h144, h145, h146]; done) | (simp [rgtC, upC, fwdC, h2, h4, h6, h8, h10, h12, h14, h66, h68, h70, h87, h89, h91, h96, h98, h100, h144, h145, h146]; done) | rfl
  have x154 : cf .f32 r141 = (upC A_c).x := by first | with_reducible rfl | (simp only [rgtC, upC, fwdC, h2, h4, h6, h8, h10, h12, h14, h66, h68, h70, h87, h89, h91, h96, h98, h100, h144, h145, h146]; done) | (simp [rgtC, upC, fwdC, h2, h4, h6, h8, h10, h12, h14, h66, h68, h70, h87, h89, h91, h96, h98, h100, h144, h145, h146]; done) | rfl
  have x155 : cf .f32 r142 = (upC A_c).y := by first | with_reducible rfl | (simp only [rgtC, upC, fwdC, h2, h4, h6, h8, h10, h12, h14, h66, h68, h70, h87, h89, h91, h96, h98, h100, h144, h145, h146]; done) | (simp [rgtC, upC, fwdC, h2, h4, h6, h8, h10, h12, h14, h66, h68, h70, h87, h89, h91, h96, h98, h100, h144, h145, h146]; done) | rfl
  have x156 : cf .f32 r143 = (upC A_c).z := by first | with_reducible rfl | (simp only [rgtC, upC, fwdC, h2, h4, h6, h8, h10, h12, h14, h66, h68, h70, h87, h89, h91, h96, h98, h100, h144, h145, h146]; done) | (simp [rgtC, upC, fwdC, h2, h4, h6, h8, h10, h12, h14, h66, h68, h70, h87, h89, h91, h96, h98, h100, h144, h145, h146]; done) | rfl
  have x157 : cf .f32 r65 = (fwdC A_c).x := by first | with_reducible rfl | (simp only [rgtC, upC, fwdC, h2, h4, h6, h8, h10, h12, h14, h66, h68, h70, h87, h89, h91, h96, h98, h100, h144, h145, h146]; done) | (simp [rgtC, upC, fwdC, h2, h4, h6, h8, h10, h12, h14, h66, h68, h70, h87, h89, h91, h96, h98, h100, h144, h145, h146]; done) | rfl
  have x158 : cf .f32 r67 = (fwdC A_c).y := by first | with_reducible rfl | (simp only [rgtC, upC, fwdC, h2, h4, h6, h8, h10, h12, h14, h66, h68, h70, h87, h89, h91, h96, h98, h100, h144, h145, h146]; done) | (simp [rgtC, upC, fwdC, h2, h4, h6, h8, h10, h12, h14, h66, h68, h70, h87, h89, h91, h96, h98, h100, h144, h145, h146]; done) | rfl
  have x159 : cf .f32 r69 = (fwdC A_c).z := by first | with_reducible rfl | (simp only [rgtC, upC, fwdC, h2, h4, h6, h8, h10, h12, h14, h66, h68, h70, h87, h89, h91, h96, h98, h100, h144, h145, h146]; done) | (simp [rgtC, upC, fwdC, h2, h4, h6, h8, h10, h12, h14, h66, h68, h70, h87, h89, h91, h96, h98, h100, h144, h145, h146]; done) | rfl
  exact ⟨[(Fl r95), (Fl r97), (Fl r99)], [(Fl r141), (Fl r142), (Fl r143)], [(Fl r65), (Fl r67), (Fl r69)], rfl, ⟨r95, r97, r99, rfl, x151, x152, x153⟩, ⟨r141, r142, r143, rfl, x154, x155, x156⟩, ⟨r65, r67, r69, rfl, x157, x158, x159⟩⟩

/- impl.stepOk -/
theorem c_impl_stepOk (x : Nat) (w : World) : Gives Try.prog 76 #[(Fl x)] w (fun v w' => v = (Bo (finF (cf .f32 x) && posF (cf .f32 x)))) := by
  refine enter [(Fl x), Ud, Ud, Ud, Ud, Ud, Ud, Ud, Ud] Try.func76 rfl Try.ntmps76 rfl ?_
  refine wp_seq_k fun K1 hK1 => ?_
  refine wp_region_lit ?_
  refine q_is (l' := [(Fl x), Ud, (Bo false), Ud, Ud, Ud, Ud, Ud, Ud]) rfl rfl (does_assign (u := (Bo false)) (ev rfl)) rfl ?_
  refine wpList_nil (hK1 _ _ ?_)
  refine wp_seq_k fun K2 hK2 => ?_
  obtain ⟨β1, hβ1⟩ : ∃ b : Bool, b = (fcmp .gtr (ford .f32 (cf .f32 x) (cf .f32 0))) := ⟨_, rfl⟩
  refine region_text (
    [Fact.pure [] (fun v => v = (Fl x)),
    Fact.pure [3] (fun v => v = (Bo (finF (cf .f32 x)))),
    Fact.pure [4] (fun v => v = (Bo (finF (cf .f32 x)))),
    Fact.pure [5] (fun v => (finF (cf .f32 x)) = true → v = (Fl x)),
    Fact.pure [6, 5] (fun v => (finF (cf .f32 x)) = true → v = (Bo β1)),
    Fact.pure [5, 7] (fun v => v = (Bo ((finF (cf .f32 x)) && β1)))]) (by simp [Fact.pure, Fact.mem]) ?_
  refine RW_d (fun v3 => [(Fl x), Ud, (Bo false), v3, Ud, Ud, Ud, Ud, Ud]) rfl (fun _ => rfl) (fun u hu hF => ?_) (fun v3 => ?_)
  · clear hF
    refine doesG_un rfl ?_
    refine (does_move (u := (Fl x)) (ev rfl)).mono ?_; rintro _ _ ⟨rfl, rfl⟩
    exact ⟨rfl, Ext.refl _⟩
  refine RW_d (fun v4 => [(Fl x), Ud, (Bo false), v3, v4, Ud, Ud, Ud, Ud]) rfl (fun _ => rfl) (fun u hu hF => ?_) (fun v4 => ?_)
  · have h3_ : v3 = (Fl x) := hF.1
    clear hF
    refine doesG_un rfl ?_
    obtain rfl := h3_
    refine (does_call (args := #[(Fl x)]) cal78 (evs rfl) (c_impl_IsFinite x _)).mono ?_; rintro v u' ⟨hx, hv⟩
    exact ⟨hv, hx⟩
  refine RW_d (fun v5 => [(Fl x), Ud, (Bo false), v3, v4, v5, Ud, Ud, Ud]) rfl (fun _ => rfl) (fun u hu hF => ?_) (fun v5 => ?_)
  · have h4_ : v4 = (Bo (finF (cf .f32 x))) := hF.1
    clear hF
    refine doesG_un rfl ?_
    obtain rfl := h4_
    refine (does_move (u := (Bo (finF (cf .f32 x)))) (ev rfl)).mono ?_; rintro _ _ ⟨rfl, rfl⟩
    exact ⟨rfl, Ext.refl _⟩
  refine RW_d (fun v6 => [(Fl x), Ud, (Bo false), v3, v4, v5, v6, Ud, Ud]) rfl (fun _ => rfl) (fun u hu hF => ?_) (fun v6 => ?_)
  · have h5_ : v5 = (Bo (finF (cf .f32 x))) := hF.1
    clear hF
    obtain rfl := h5_
    refine doesG_g (b := (finF (cf .f32 x))) rfl (yld rfl rfl) (fun hg1 => ?_) (fun hc => ⟨fun hg1 => absurd hg1 hc, Ext.refl _⟩)
    refine (does_move (u := (Fl x)) (ev rfl)).mono ?_; rintro _ _ ⟨rfl, rfl⟩
    exact ⟨fun _ => rfl, Ext.refl _⟩
  refine RW_d (fun v7 => [(Fl x), Ud, (Bo false), v3, v4, v5, v6, v7, Ud]) rfl (fun _ => rfl) (fun u hu hF => ?_) (fun v7 => ?_)
  · have h6_ : (finF (cf .f32 x)) = true → v6 = (Fl x) := hF.1
    have h5_ : v5 = (Bo (finF (cf .f32 x))) := hF.2.1
    clear hF
    obtain rfl := h5_
    refine doesG_g (b := (finF (cf .f32 x))) rfl (yld rfl rfl) (fun hg1 => ?_) (fun hc => ⟨fun hg1 => absurd hg1 hc, Ext.refl _⟩)
    obtain rfl := h6_ hg1
    refine (does_fcmp (.inr (.inr (.inr (.inr (.inl rfl))))) (ev rfl) (ev rfl)).mono ?_; rintro _ _ ⟨rfl, rfl⟩
    exact ⟨fun _ => (by first | rfl | (show _ = _; simp only [hβ1]; done) | (show _ = _; simp only [hβ1]; rfl)), Ext.refl _⟩
  refine RW_d (fun v8 => [(Fl x), Ud, (Bo false), v3, v4, v5, v6, v7, v8]) rfl (fun _ => rfl) (fun u hu hF => ?_) (fun v8 => ?_)
  · have h5_ : v5 = (Bo (finF (cf .f32 x))) := hF.1
    have h7_ : (finF (cf .f32 x)) = true → v7 = (Bo β1) := hF.2.1
    clear hF
    refine doesG_un rfl ?_
    skip
    obtain rfl := h5_
    refine (does_pick (b := (finF (cf .f32 x))) (u := v7) (v := (Bo false)) (ev rfl) (ev rfl) (ev rfl)).mono ?_; rintro _ _ ⟨rfl, rfl⟩; refine ⟨?_, Ext.refl _⟩; skip
    cases hbb : (finF (cf .f32 x))
    all_goals first | (show _ = _; simp only [↓reduceIte, Bool.true_and, Bool.false_and, Bool.true_or, Bool.false_or, Bool.false_eq_true]; done) | (have e_ := h7_ hbb; subst e_; show _ = _; simp only [↓reduceIte, Bool.true_and, Bool.false_and, Bool.true_or, Bool.false_or, Bool.false_eq_true]; done) | rfl | (have e_ := h7_ hbb; subst e_; rfl) | (simp [hbb] at h7_ ⊢; first | done | rfl | (subst h7_; rfl) | simp_all) | (simp [hbb] at h7_ ⊢; done)
  refine RW_fin ?_; intro w9 E10 hP11
  obtain ⟨⟨⟨⟨⟨⟨-, -⟩, -⟩, -⟩, -⟩, -⟩, q12⟩ := hP11
  have X13 := Ext.gr (Ext.refl w) E10
  have q12 : v8 = (Bo ((finF (cf .f32 x)) && β1)) := q12
  obtain rfl := q12
  show wpList _ _ _ _ (fr [(Fl x), Ud, (Bo false), v3, v4, v5, v6, v7, (Bo ((finF (cf .f32 x)) && β1))]) _
  refine q_is (l' := [(Fl x), Ud, (Bo ((finF (cf .f32 x)) && β1)), v3, v4, v5, v6, v7, (Bo ((finF (cf .f32 x)) && β1))]) rfl rfl (does_assign (u := (Bo ((finF (cf .f32 x)) && β1))) (ev rfl)) rfl ?_
  refine wpList_nil (hK2 _ _ ?_)
  refine wp_ret ?_
  refine ret_val (v := (Bo ((finF (cf .f32 x)) && β1))) (res_T rfl (slot rfl)) X13 ?_
  have x14 : (finF (cf .f32 x) && posF (cf .f32 x)) = ((finF (cf .f32 x)) && β1) := by first | with_reducible rfl | (simp only [posF, hβ1]; done) | (simp [posF, hβ1]; done) | rfl
  exact (by first | with_reducible rfl | rw [x14] | rfl)

/- impl.isZero -/
theorem c_impl_isZero (v : List Value) (A_v : V3) (w : World) (hv_v : RV3 w A_v v) : Gives Try.prog 77 #[(.agg v.toArray)] w (fun v w' => v = (Bo (zeroV A_v))) := by
  obtain ⟨r1, r3, r5, rfl, h2, h4, h6⟩ := hv_v
  refine enter [(.agg #[(Fl r1), (Fl r3), (Fl r5)]), Ud, Ud, Ud, Ud, Ud, Ud, Ud, Ud, Ud, Ud, Ud, Ud, Ud, Ud, Ud] Try.func77 rfl Try.ntmps77 rfl ?_
  refine wp_seq_k fun K7 hK7 => ?_
  refine wp_region_lit ?_
  refine seqd rfl rfl (does_box (u := (.agg #[(Fl r1), (Fl r3), (Fl r5)])) (ev rfl)) ?_; rintro _ w12 ⟨b8, rfl, hb9, hB10, E11⟩
  have g13 : w.heap.size ≤ b8 := Nat.le_trans (Below.size (Ext.refl w)) hb9
  change Blk _ _ [(Fl r1), (Fl r3), (Fl r5)] at hB10
  have X14 := Ext.gr (Ext.refl w) E11
  show wpList _ _ _ _ (fr [(.agg #[(Fl r1), (Fl r3), (Fl r5)]), (Pt b8 0), Ud, Ud, Ud, Ud, Ud, Ud, Ud, Ud, Ud, Ud, Ud, Ud, Ud, Ud]) _
  refine q_is (l' := [(.agg #[(Fl r1), (Fl r3), (Fl r5)]), (Pt b8 0), (Bo false), Ud, Ud, Ud, Ud, Ud, Ud, Ud, Ud, Ud, Ud, Ud, Ud, Ud]) rfl rfl (does_assign (u := (Bo false)) (ev rfl)) rfl ?_
  refine wpList_nil (hK7 _ _ ?_)
  refine wp_seq_k fun K15 hK15 => ?_
  obtain ⟨β1, hβ1⟩ : ∃ b : Bool, b = (fcmp .eql (ford .f32 (cf .f32 r1) (cf .f32 0))) := ⟨_, rfl⟩
  obtain ⟨β2, hβ2⟩ : ∃ b : Bool, b = (fcmp .eql (ford .f32 (cf .f32 r3) (cf .f32 0))) := ⟨_, rfl⟩
  obtain ⟨β3, hβ3⟩ : ∃ b : Bool, b = (fcmp .eql (ford .f32 (cf .f32 r5) (cf .f32 0))) := ⟨_, rfl⟩
  refine region_text (
    [Fact.pure [] (fun v => v = (Pt b8 0)),
    Fact.pure [3] (fun v => v = (Fl r1)),
    Fact.pure [4] (fun v => v = (Bo β1)),
    Fact.pure [5] (fun v => v = (Bo β1)),
    Fact.pure [6] (fun v => β1 = true → v = (Pt b8 1)),
    Fact.pure [7, 6] (fun v => β1 = true → v = (Fl r3)),
    Fact.pure [8, 6] (fun v => β1 = true → v = (Bo β2)),
    Fact.pure [6, 9] (fun v => v = (Bo (β1 && β2))),
    Fact.pure [10] (fun v => v = (Bo (β1 && β2))),
    Fact.pure [11] (fun v => (β1 && β2) = true → v = (Pt b8 2)),
    Fact.pure [12, 11] (fun v => (β1 && β2) = true → v = (Fl r5)),
    Fact.pure [13, 11] (fun v => (β1 && β2) = true → v = (Bo β3)),
    Fact.pure [11, 14] (fun v => v = (Bo ((β1 && β2) && β3)))]) (by simp [Fact.pure, Fact.mem]) ?_
  refine RW_d (fun v16 => [(.agg #[(Fl r1), (Fl r3), (Fl r5)]), (Pt b8 0), (Bo false), v16, Ud, Ud, Ud, Ud, Ud, Ud, Ud, Ud, Ud, Ud, Ud, Ud]) rfl (fun _ => rfl) (fun u hu hF => ?_) (fun v16 => ?_)
  · clear hF
    refine doesG_un rfl ?_
    refine (does_fieldAddr (ev rfl) fa40_0).mono ?_; rintro _ _ ⟨rfl, rfl⟩
    exact ⟨rfl, Ext.refl _⟩
  refine RW_d (fun v17 => [(.agg #[(Fl r1), (Fl r3), (Fl r5)]), (Pt b8 0), (Bo false), v16, v17, Ud, Ud, Ud, Ud, Ud, Ud, Ud, Ud, Ud, Ud, Ud]) rfl (fun _ => rfl) (fun u hu hF => ?_) (fun v17 => ?_)
  · have h3_ : v16 = (Pt b8 0) := hF.1
    clear hF
    refine doesG_un rfl ?_
    obtain rfl := h3_
    refine (does_load (u := (Fl r1)) (ev rfl) Try.isAgg38 (Cells.at (Blk.cells (hB10.ext hu)) 0 rfl)).mono ?_; rintro _ _ ⟨rfl, rfl⟩
    exact ⟨rfl, Ext.refl _⟩
  refine RW_d (fun v18 => [(.agg #[(Fl r1), (Fl r3), (Fl r5)]), (Pt b8 0), (Bo false), v16, v17, v18, Ud, Ud, Ud, Ud, Ud, Ud, Ud, Ud, Ud, Ud]) rfl (fun _ => rfl) (fun u hu hF => ?_) (fun v18 => ?_)
  · have h4_ : v17 = (Fl r1) := hF.1
    clear hF
    refine doesG_un rfl ?_
    obtain rfl := h4_
    refine (does_fcmp (.inl rfl) (ev rfl) (ev rfl)).mono ?_; rintro _ _ ⟨rfl, rfl⟩
    exact ⟨(by first | rfl | (show _ = _; simp only [hβ1]; done) | (show _ = _; simp only [hβ1]; rfl)), Ext.refl _⟩
  refine RW_d (fun v19 => [(.agg #[(Fl r1), (Fl r3), (Fl r5)]), (Pt b8 0), (Bo false), v16, v17, v18, v19, Ud, Ud, Ud, Ud, Ud, Ud, Ud, Ud, Ud]) rfl (fun _ => rfl) (fun u hu hF => ?_) (fun v19 => ?_)
  · have h5_ : v18 = (Bo β1) := hF.1
    clear hF
    refine doesG_un rfl ?_
    obtain rfl := h5_
    refine (does_move (u := (Bo β1)) (ev rfl)).mono ?_; rintro _ _ ⟨rfl, rfl⟩
    exact ⟨rfl, Ext.refl _⟩
  refine RW_d (fun v20 => [(.agg #[(Fl r1), (Fl r3), (Fl r5)]), (Pt b8 0), (Bo false), v16, v17, v18, v19, v20, Ud, Ud, Ud, Ud, Ud, Ud, Ud, Ud]) rfl (fun _ => rfl) (fun u hu hF => ?_) (fun v20 => ?_)
  · have h6_ : v19 = (Bo β1) := hF.1
    clear hF
    obtain rfl := h6_
    refine doesG_g (b := β1) rfl (yld rfl rfl) (fun hg1 => ?_) (fun hc => ⟨fun hg1 => absurd hg1 hc, Ext.refl _⟩)
    refine (does_fieldAddr (ev rfl) fa40_1).mono ?_; rintro _ _ ⟨rfl, rfl⟩
    exact ⟨fun _ => rfl, Ext.refl _⟩
  refine RW_d (fun v21 => [(.agg #[(Fl r1), (Fl r3), (Fl r5)]), (Pt b8 0), (Bo false), v16, v17, v18, v19, v20, v21, Ud, Ud, Ud, Ud, Ud, Ud, Ud]) rfl (fun _ => rfl) (fun u hu hF => ?_) (fun v21 => ?_)
  · have h7_ : β1 = true → v20 = (Pt b8 1) := hF.1
    have h6_ : v19 = (Bo β1) := hF.2.1
    clear hF
    obtain rfl := h6_
    refine doesG_g (b := β1) rfl (yld rfl rfl) (fun hg1 => ?_) (fun hc => ⟨fun hg1 => absurd hg1 hc, Ext.refl _⟩)
    obtain rfl := h7_ hg1
    refine (does_load (u := (Fl r3)) (ev rfl) Try.isAgg38 (Cells.at (Blk.cells (hB10.ext hu)) 1 rfl)).mono ?_; rintro _ _ ⟨rfl, rfl⟩
    exact ⟨fun _ => rfl, Ext.refl _⟩
  refine RW_d (fun v22 => [(.agg #[(Fl r1), (Fl r3), (Fl r5)]), (Pt b8 0), (Bo false), v16, v17, v18, v19, v20, v21, v22, Ud, Ud, Ud, Ud, Ud, Ud]) rfl (fun _ => rfl) (fun u hu hF => ?_) (fun v22 => ?_)
  · have h8_ : β1 = true → v21 = (Fl r3) := hF.1
    have h6_ : v19 = (Bo β1) := hF.2.1
    clear hF
    obtain rfl := h6_
    refine doesG_g (b := β1) rfl (yld rfl rfl) (fun hg1 => ?_) (fun hc => ⟨fun hg1 => absurd hg1 hc, Ext.refl _⟩)
    obtain rfl := h8_ hg1
    refine (does_fcmp (.inl rfl) (ev rfl) (ev rfl)).mono ?_; rintro _ _ ⟨rfl, rfl⟩
    exact ⟨fun _ => (by first | rfl | (show _ = _; simp only [hβ2]; done) | (show _ = _; simp only [hβ2]; rfl)), Ext.refl _⟩
  refine RW_d (fun v23 => [(.agg #[(Fl r1), (Fl r3), (Fl r5)]), (Pt b8 0), (Bo false), v16, v17, v18, v19, v20, v21, v22, v23, Ud, Ud, Ud, Ud, Ud]) rfl (fun _ => rfl) (fun u hu hF => ?_) (fun v23 => ?_)
  · have h6_ : v19 = (Bo β1) := hF.1
    have h9_ : β1 = true → v22 = (Bo β2) := hF.2.1
    clear hF
    refine doesG_un rfl ?_
    skip
    obtain rfl := h6_
    refine (does_pick (b := β1) (u := v22) (v := (Bo false)) (ev rfl) (ev rfl) (ev rfl)).mono ?_; rintro _ _ ⟨rfl, rfl⟩; refine ⟨?_, Ext.refl _⟩; skip
    cases hbb : β1
    all_goals first | (show _ = _; simp only [↓reduceIte, Bool.true_and, Bool.false_and, Bool.true_or, Bool.false_or, Bool.false_eq_true]; done) | (have e_ := h9_ hbb; subst e_; show _ = _; simp only [↓reduceIte, Bool.true_and, Bool.false_and, Bool.true_or, Bool.false_or, Bool.false_eq_true]; done) | rfl | (have e_ := h9_ hbb; subst e_; rfl) | (simp [hbb] at h9_ ⊢; first | done | rfl | (subst h9_; rfl) | simp_all) | (simp [hbb] at h9_ ⊢; done)
  refine RW_d (fun v24 => [(.agg #[(Fl r1), (Fl r3), (Fl r5)]), (Pt b8 0), (Bo false), v16, v17, v18, v19, v20, v21, v22, v23, v24, Ud, Ud, Ud, Ud]) rfl (fun _ => rfl) (fun u hu hF => ?_) (fun v24 => ?_)
  · have h10_ : v23 = (Bo (β1 && β2)) := hF.1
    clear hF
    refine doesG_un rfl ?_
    obtain rfl := h10_
    refine (does_move (u := (Bo (β1 && β2))) (ev rfl)).mono ?_; rintro _ _ ⟨rfl, rfl⟩
    exact ⟨rfl, Ext.refl _⟩
  refine RW_d (fun v25 => [(.agg #[(Fl r1), (Fl r3), (Fl r5)]), (Pt b8 0), (Bo false), v16, v17, v18, v19, v20, v21, v22, v23, v24, v25, Ud, Ud, Ud]) rfl (fun _ => rfl) (fun u hu hF => ?_) (fun v25 => ?_)
  · have h11_ : v24 = (Bo (β1 && β2)) := hF.1
    clear hF
    obtain rfl := h11_
    refine doesG_g (b := (β1 && β2)) rfl (yld rfl rfl) (fun hg1 => ?_) (fun hc => ⟨fun hg1 => absurd hg1 hc, Ext.refl _⟩)
    refine (does_fieldAddr (ev rfl) fa40_2).mono ?_; rintro _ _ ⟨rfl, rfl⟩
    exact ⟨fun _ => rfl, Ext.refl _⟩
  refine RW_d (fun v26 => [(.agg #[(Fl r1), (Fl r3), (Fl r5)]), (Pt b8 0), (Bo false), v16, v17, v18, v19, v20, v21, v22, v23, v24, v25, v26, Ud, Ud]) rfl (fun _ => rfl) (fun u hu hF => ?_) (fun v26 => ?_)
  · have h12_ : (β1 && β2) = true → v25 = (Pt b8 2) := hF.1
    have h11_ : v24 = (Bo (β1 && β2)) := hF.2.1
    clear hF
    obtain rfl := h11_
    refine doesG_g (b := (β1 && β2)) rfl (yld rfl rfl) (fun hg1 => ?_) (fun hc => ⟨fun hg1 => absurd hg1 hc, Ext.refl _⟩)
    obtain rfl := h12_ hg1
    refine (does_load (u := (Fl r5)) (ev rfl) Try.isAgg38 (Cells.at (Blk.cells (hB10.ext hu)) 2 rfl)).mono ?_; rintro _ _ ⟨rfl, rfl⟩
    exact ⟨fun _ => rfl, Ext.refl _⟩
  refine RW_d (fun v27 => [(.agg #[(Fl r1), (Fl r3), (Fl r5)]), (Pt b8 0), (Bo false), v16, v17, v18, v19, v20, v21, v22, v23, v24, v25, v26, v27, Ud]) rfl (fun _ => rfl) (fun u hu hF => ?_) (fun v27 => ?_)
  · have h13_ : (β1 && β2) = true → v26 = (Fl r5) := hF.1
    have h11_ : v24 = (Bo (β1 && β2)) := hF.2.1
    clear hF
    obtain rfl := h11_
    refine doesG_g (b := (β1 && β2)) rfl (yld rfl rfl) (fun hg1 => ?_) (fun hc => ⟨fun hg1 => absurd hg1 hc, Ext.refl _⟩)
    obtain rfl := h13_ hg1
    refine (does_fcmp (.inl rfl) (ev rfl) (ev rfl)).mono ?_; rintro _ _ ⟨rfl, rfl⟩
    exact ⟨fun _ => (by first | rfl | (show _ = _; simp only [hβ3]; done) | (show _ = _; simp only [hβ3]; rfl)), Ext.refl _⟩
  refine RW_d (fun v28 => [(.agg #[(Fl r1), (Fl r3), (Fl r5)]), (Pt b8 0), (Bo false), v16, v17, v18, v19, v20, v21, v22, v23, v24, v25, v26, v27, v28]) rfl (fun _ => rfl) (fun u hu hF => ?_) (fun v28 => ?_)
  · have h11_ : v24 = (Bo (β1 && β2)) := hF.1
    have h14_ : (β1 && β2) = true → v27 = (Bo β3) := hF.2.1
    clear hF
    refine doesG_un rfl ?_
    skip
    obtain rfl := h11_
    refine (does_pick (b := (β1 && β2)) (u := v27) (v := (Bo false)) (ev rfl) (ev rfl) (ev rfl)).mono ?_; rintro _ _ ⟨rfl, rfl⟩; refine ⟨?_, Ext.refl _⟩; skip
    cases hbb : (β1 && β2)
    all_goals first | (show _ = _; simp only [↓reduceIte, Bool.true_and, Bool.false_and, Bool.true_or, Bool.false_or, Bool.false_eq_true]; done) | (have e_ := h14_ hbb; subst e_; show _ = _; simp only [↓reduceIte, Bool.true_and, Bool.false_and, Bool.true_or, Bool.false_or, Bool.false_eq_true]; done) | rfl | (have e_ := h14_ hbb; subst e_; rfl) | (simp [hbb] at h14_ ⊢; first | done | rfl | (subst h14_; rfl) | simp_all) | (simp [hbb] at h14_ ⊢; done)
  refine RW_fin ?_; intro w29 E30 hP31
  obtain ⟨⟨⟨⟨⟨⟨⟨⟨⟨⟨⟨⟨⟨-, -⟩, -⟩, -⟩, -⟩, -⟩, -⟩, -⟩, -⟩, -⟩, -⟩, -⟩, -⟩, q32⟩ := hP31
  have X33 := Ext.gr X14 E30
  have q32 : v28 = (Bo ((β1 && β2) && β3)) := q32
  obtain rfl := q32
  show wpList _ _ _ _ (fr [(.agg #[(Fl r1), (Fl r3), (Fl r5)]), (Pt b8 0), (Bo false), v16, v17, v18, v19, v20, v21, v22, v23, v24, v25, v26, v27, (Bo ((β1 && β2) && β3))]) _
  refine q_is (l' := [(.agg #[(Fl r1), (Fl r3), (Fl r5)]), (Pt b8 0), (Bo ((β1 && β2) && β3)), v16, v17, v18, v19, v20, v21, v22, v23, v24, v25, v26, v27, (Bo ((β1 && β2) && β3))]) rfl rfl (does_assign (u := (Bo ((β1 && β2) && β3))) (ev rfl)) rfl ?_
  refine wpList_nil (hK15 _ _ ?_)
  refine wp_ret ?_
  refine ret_val (v := (Bo ((β1 && β2) && β3))) (res_T rfl (slot rfl)) X33 ?_
  have x34 : (zeroV A_v) = ((β1 && β2) && β3) := by first | with_reducible rfl | (simp only [zeroV, h2, h4, h6, hβ1, hβ2, hβ3]; done) | (simp [zeroV, h2, h4, h6, hβ1, hβ2, hβ3]; done) | rfl
  exact (by first | with_reducible rfl | rw [x34] | rfl)

/- impl.ValidCamera -/
theorem c_impl_ValidCamera (c : List Value) (A_c : CamT) (w : World) (hv_c : RCamT w A_c c) : Gives Try.prog 43 #[(.agg c.toArray)] w (fun v w' => v = (Bo (isCam A_c))) := by
  obtain ⟨r1, r3, r5, r7, r9, r11, r13, rfl, h2, h4, h6, h8, h10, h12, h14⟩ := hv_c
  refine enter [(.agg #[(Fl r1), (Fl r3), (Fl r5), (Fl r7), (Fl r9), (Fl r11), (Fl r13), (Iv A_c.width), (Iv A_c.height)]), Ud, Ud, Ud, Ud, Ud, Ud, Ud, Ud, Ud, Ud, Ud, Ud, Ud, Ud, Ud, Ud, Ud, Ud, Ud, Ud, Ud, Ud, Ud, Ud, Ud, Ud, Ud, Ud, Ud, Ud, Ud, Ud, Ud, Ud, Ud, Ud, Ud, Ud, Ud, Ud, Ud, Ud, Ud, Ud, Ud] Try.func43 rfl Try.ntmps43 rfl ?_
  refine wp_seq_k fun K15 hK15 => ?_
  refine wp_region_lit ?_
  refine seqd rfl rfl (does_box (u := (.agg #[(Fl r1), (Fl r3), (Fl r5), (Fl r7), (Fl r9), (Fl r11), (Fl r13), (Iv A_c.width), (Iv A_c.height)])) (ev rfl)) ?_; rintro _ w20 ⟨b16, rfl, hb17, hB18, E19⟩
  have g21 : w.heap.size ≤ b16 := Nat.le_trans (Below.size (Ext.refl w)) hb17
  change Blk _ _ [(Fl r1), (Fl r3), (Fl r5), (Fl r7), (Fl r9), (Fl r11), (Fl r13), (Iv A_c.width), (Iv A_c.height)] at hB18
  have X22 := Ext.gr (Ext.refl w) E19
  show wpList _ _ _ _ (fr [_, _, _, _, _, _, _, _, _, _, _, _, _, _, _, _, _, _, _, _, _, _, _, _, _, _, _, _, _, _, _, _, _, _, _, _, _, _, _, _, _, _, _, _, _, _]) _
  refine q_is rfl rfl (does_assign (u := (Bo false)) (ev rfl)) (by dsimp only [List.set]; try rfl) ?_
  refine wpList_nil (hK15 _ _ ?_)
  refine wp_seq_k fun K23 hK23 => ?_
  refine wp_region_lit ?_
  refine seqd rfl rfl (does_call (args := #[(Pt b16 0)]) cal75 (evs rfl) (c_impl_Camera_axes b16 0 [(Fl r1), (Fl r3), (Fl r5), (Fl r7), (Fl r9), (Fl r11), (Fl r13), (Iv A_c.width), (Iv A_c.height)] A_c _ (Blk.cells hB18) ⟨r1, r3, r5, r7, r9, r11, r13, rfl, h2, h4, h6, h8, h10, h12, h14⟩)) ?_; rintro _ w25 ⟨E24, ⟨_, _, _, rfl, ⟨r26, r28, r30, rfl, h27, h29, h31⟩, ⟨r32, r34, r36, rfl, h33, h35, h37⟩, ⟨r38, r40, r42, rfl, h39, h41, h43⟩⟩⟩
  have X44 := Ext.gr X22 E24
  show wpList _ _ _ _ (fr [_, _, _, _, _, _, _, _, _, _, _, _, _, _, _, _, _, _, _, _, _, _, _, _, _, _, _, _, _, _, _, _, _, _, _, _, _, _, _, _, _, _, _, _, _, _]) _
  refine q_is rfl rfl (does_move (u := (.tuple #[(.agg #[(Fl r26), (Fl r28), (Fl r30)]), (.agg #[(Fl r32), (Fl r34), (Fl r36)]), (.agg #[(Fl r38), (Fl r40), (Fl r42)])])) (ev rfl)) (by dsimp only [List.set]; try rfl) ?_
  refine q_is rfl rfl (does_extract (vs := #[(.agg #[(Fl r26), (Fl r28), (Fl r30)]), (.agg #[(Fl r32), (Fl r34), (Fl r36)]), (.agg #[(Fl r38), (Fl r40), (Fl r42)])]) (u := (.agg #[(Fl r26), (Fl r28), (Fl r30)])) (ev rfl) rfl) (by dsimp only [List.set]; try rfl) ?_
  refine q_is rfl rfl (does_extract (vs := #[(.agg #[(Fl r26), (Fl r28), (Fl r30)]), (.agg #[(Fl r32), (Fl r34), (Fl r36)]), (.agg #[(Fl r38), (Fl r40), (Fl r42)])]) (u := (.agg #[(Fl r32), (Fl r34), (Fl r36)])) (ev rfl) rfl) (by dsimp only [List.set]; try rfl) ?_
  refine q_is rfl rfl (does_extract (vs := #[(.agg #[(Fl r26), (Fl r28), (Fl r30)]), (.agg #[(Fl r32), (Fl r34), (Fl r36)]), (.agg #[(Fl r38), (Fl r40), (Fl r42)])]) (u := (.agg #[(Fl r38), (Fl r40), (Fl r42)])) (ev rfl) rfl) (by dsimp only [List.set]; try rfl) ?_
  refine seqd rfl rfl (does_alloc z40) ?_; rintro _ w49 ⟨b45, rfl, hb46, hB47, E48⟩
  have n50 : b16 < b45 := Nat.lt_of_lt_of_le (Blk.lt (hB18.ext E24)) hb46
  have g51 : w.heap.size ≤ b45 := Nat.le_trans (Below.size X44) hb46
  change Blk _ _ [(Fl 0), (Fl 0), (Fl 0)] at hB47
  have X52 := Ext.gr X44 E48
  show wpList _ _ _ _ (fr [_, _, _, _, _, _, _, _, _, _, _, _, _, _, _, _, _, _, _, _, _, _, _, _, _, _, _, _, _, _, _, _, _, _, _, _, _, _, _, _, _, _, _, _, _, _]) _
  refine seqd rfl rfl (does_alloc z40) ?_; rintro _ w57 ⟨b53, rfl, hb54, hB55, E56⟩
  have n58 : b16 < b53 := Nat.lt_of_lt_of_le (Blk.lt ((hB18.ext E24).ext E48)) hb54
  have n59 : b45 < b53 := Nat.lt_of_lt_of_le (Blk.lt hB47) hb54
  have g60 : w.heap.size ≤ b53 := Nat.le_trans (Below.size X52) hb54
  change Blk _ _ [(Fl 0), (Fl 0), (Fl 0)] at hB55
  have X61 := Ext.gr X52 E56
  show wpList _ _ _ _ (fr [_, _, _, _, _, _, _, _, _, _, _, _, _, _, _, _, _, _, _, _, _, _, _, _, _, _, _, _, _, _, _, _, _, _, _, _, _, _, _, _, _, _, _, _, _, _]) _
  refine seqd rfl rfl (does_alloc z40) ?_; rintro _ w66 ⟨b62, rfl, hb63, hB64, E65⟩
  have n67 : b16 < b62 := Nat.lt_of_lt_of_le (Blk.lt (((hB18.ext E24).ext E48).ext E56)) hb63
  have n68 : b45 < b62 := Nat.lt_of_lt_of_le (Blk.lt (hB47.ext E56)) hb63
  have n69 : b53 < b62 := Nat.lt_of_lt_of_le (Blk.lt hB55) hb63
  have g70 : w.heap.size ≤ b62 := Nat.le_trans (Below.size X61) hb63
  change Blk _ _ [(Fl 0), (Fl 0), (Fl 0)] at hB64
  have X71 := Ext.gr X61 E65
  show wpList _ _ _ _ (fr [_, _, _, _, _, _, _, _, _, _, _, _, _, _, _, _, _, _, _, _, _, _, _, _, _, _, _, _, _, _, _, _, _, _, _, _, _, _, _, _, _, _, _, _, _, _]) _
  refine seqn rfl rfl (does_store (n := 3) (cs := [(Fl 0), (Fl 0), (Fl 0)]) (u := (.agg #[(Fl r26), (Fl r28), (Fl r30)])) (ev rfl) (ev rfl) Try.sizeOf40 rfl ((hB47.ext E56).ext E65) (Nat.le_of_ble_eq_true rfl) rfl) ?_; rintro _ w74 ⟨rfl, W72, hB73⟩
  change Blk _ _ [(Fl r26), (Fl r28), (Fl r30)] at hB73
  have X75 := Below.wr X71 W72 g51
  refine seqn rfl rfl (does_store (n := 3) (cs := [(Fl 0), (Fl 0), (Fl 0)]) (u := (.agg #[(Fl r32), (Fl r34), (Fl r36)])) (ev rfl) (ev rfl) Try.sizeOf40 rfl ((hB55.ext E65).wr W72 (Nat.ne_of_gt n59)) (Nat.le_of_ble_eq_true rfl) rfl) ?_; rintro _ w78 ⟨rfl, W76, hB77⟩
  change Blk _ _ [(Fl r32), (Fl r34), (Fl r36)] at hB77
  have X79 := Below.wr X75 W76 g60
  refine seqn rfl rfl (does_store (n := 3) (cs := [(Fl 0), (Fl 0), (Fl 0)]) (u := (.agg #[(Fl r38), (Fl r40), (Fl r42)])) (ev rfl) (ev rfl) Try.sizeOf40 rfl ((hB64.wr W72 (Nat.ne_of_gt n68)).wr W76 (Nat.ne_of_gt n69)) (Nat.le_of_ble_eq_true rfl) rfl) ?_; rintro _ w82 ⟨rfl, W80, hB81⟩
  change Blk _ _ [(Fl r38), (Fl r40), (Fl r42)] at hB81
  have X83 := Below.wr X79 W80 g70
  refine wpList_nil (hK23 _ _ ?_)
  refine wp_seq_k fun K84 hK84 => ?_
  obtain ⟨β1, hβ1⟩ : ∃ b : Bool, b = ((inI A_c.width 1 12) && (inI A_c.height 1 12)) := ⟨_, rfl⟩
  obtain ⟨β2, hβ2⟩ : ∃ b : Bool, b = (finF (cf .f32 r13) && posF (cf .f32 r13)) := ⟨_, rfl⟩
  refine region_text (
    [Fact.pure [] (fun v => v = (Pt b16 7)),
    Fact.pure [12] (fun v => v = (Iv A_c.width)),
    Fact.pure [13] (fun v => v = (Bo (inI A_c.width 1 12))),
    Fact.pure [14] (fun v => v = (Bo (inI A_c.width 1 12))),
    Fact.pure [15] (fun v => (inI A_c.width 1 12) = true → v = (Pt b16 8)),
    Fact.pure [16, 15] (fun v => (inI A_c.width 1 12) = true → v = (Iv A_c.height)),
    Fact.pure [17, 15] (fun v => (inI A_c.width 1 12) = true → v = (Bo (inI A_c.height 1 12))),
    Fact.pure [15, 18] (fun v => v = (Bo β1)),
    Fact.pure [19] (fun v => v = (Bo β1)),
    Fact.pure [20] (fun v => β1 = true → v = (Pt b16 6)),
    Fact.pure [21, 20] (fun v => β1 = true → v = (Fl r13)),
    Fact.pure [22, 20] (fun v => β1 = true → v = (Bo β2)),
    Fact.pure [20, 23] (fun v => v = (Bo (β1 && β2)))]) (by simp [Fact.pure, Fact.mem]) ?_
  refine RW_d _ rfl (fun v => by dsimp only [List.set]; try rfl) (fun u hu hF => ?_) (fun v85 => ?_)
  · clear hF
    refine doesG_un rfl ?_
    refine (does_fieldAddr (ev rfl) fa60_3).mono ?_; rintro _ _ ⟨rfl, rfl⟩
    exact ⟨rfl, Ext.refl _⟩
  refine RW_d _ rfl (fun v => by dsimp only [List.set]; try rfl) (fun u hu hF => ?_) (fun v86 => ?_)
  · have h12_ : v85 = (Pt b16 7) := hF.1
    clear hF
    refine doesG_un rfl ?_
    obtain rfl := h12_
    refine (does_load (u := (Iv A_c.width)) (ev rfl) Try.isAgg2 (Cells.at (Blk.cells ((((((((hB18.ext E24).ext E48).ext E56).ext E65).wr W72 (Nat.ne_of_lt n50)).wr W76 (Nat.ne_of_lt n58)).wr W80 (Nat.ne_of_lt n67)).ext hu)) 7 rfl)).mono ?_; rintro _ _ ⟨rfl, rfl⟩
    exact ⟨rfl, Ext.refl _⟩
  refine RW_d _ rfl (fun v => by dsimp only [List.set]; try rfl) (fun u hu hF => ?_) (fun v87 => ?_)
  · have h13_ : v86 = (Iv A_c.width) := hF.1
    clear hF
    refine doesG_un rfl ?_
    obtain rfl := h13_
    refine (does_call (args := #[(Iv A_c.width), (Iv 1), (Iv 12)]) cal55 (evs rfl) (c_impl_in A_c.width 1 12 _)).mono ?_; rintro v u' ⟨hx, hv⟩
    exact ⟨hv, hx⟩
  refine RW_d _ rfl (fun v => by dsimp only [List.set]; try rfl) (fun u hu hF => ?_) (fun v88 => ?_)
  · have h14_ : v87 = (Bo (inI A_c.width 1 12)) := hF.1
    clear hF
    refine doesG_un rfl ?_
    obtain rfl := h14_
    refine (does_move (u := (Bo (inI A_c.width 1 12))) (ev rfl)).mono ?_; rintro _ _ ⟨rfl, rfl⟩
    exact ⟨rfl, Ext.refl _⟩
  refine RW_d _ rfl (fun v => by dsimp only [List.set]; try rfl) (fun u hu hF => ?_) (fun v89 => ?_)
  · have h15_ : v88 = (Bo (inI A_c.width 1 12)) := hF.1
    clear hF
    obtain rfl := h15_
    refine doesG_g (b := (inI A_c.width 1 12)) rfl (yld rfl rfl) (fun hg1 => ?_) (fun hc => ⟨fun hg1 => absurd hg1 hc, Ext.refl _⟩)
    refine (does_fieldAddr (ev rfl) fa60_4).mono ?_; rintro _ _ ⟨rfl, rfl⟩
    exact ⟨fun _ => rfl, Ext.refl _⟩
  refine RW_d _ rfl (fun v => by dsimp only [List.set]; try rfl) (fun u hu hF => ?_) (fun v90 => ?_)
  · have h16_ : (inI A_c.width 1 12) = true → v89 = (Pt b16 8) := hF.1
    have h15_ : v88 = (Bo (inI A_c.width 1 12)) := hF.2.1
    clear hF
    obtain rfl := h15_
    refine doesG_g (b := (inI A_c.width 1 12)) rfl (yld rfl rfl) (fun hg1 => ?_) (fun hc => ⟨fun hg1 => absurd hg1 hc, Ext.refl _⟩)
    obtain rfl := h16_ hg1
    refine (does_load (u := (Iv A_c.height)) (ev rfl) Try.isAgg2 (Cells.at (Blk.cells ((((((((hB18.ext E24).ext E48).ext E56).ext E65).wr W72 (Nat.ne_of_lt n50)).wr W76 (Nat.ne_of_lt n58)).wr W80 (Nat.ne_of_lt n67)).ext hu)) 8 rfl)).mono ?_; rintro _ _ ⟨rfl, rfl⟩
    exact ⟨fun _ => rfl, Ext.refl _⟩
  refine RW_d _ rfl (fun v => by dsimp only [List.set]; try rfl) (fun u hu hF => ?_) (fun v91 => ?_)
  · have h17_ : (inI A_c.width 1 12) = true → v90 = (Iv A_c.height) := hF.1
    have h15_ : v88 = (Bo (inI A_c.width 1 12)) := hF.2.1
    clear hF
    obtain rfl := h15_
    refine doesG_g (b := (inI A_c.width 1 12)) rfl (yld rfl rfl) (fun hg1 => ?_) (fun hc => ⟨fun hg1 => absurd hg1 hc, Ext.refl _⟩)
    obtain rfl := h17_ hg1
    refine (does_call (args := #[(Iv A_c.height), (Iv 1), (Iv 12)]) cal55 (evs rfl) (c_impl_in A_c.height 1 12 _)).mono ?_; rintro v u' ⟨hx, hv⟩
    exact ⟨fun _ => hv, hx⟩
  refine RW_d _ rfl (fun v => by dsimp only [List.set]; try rfl) (fun u hu hF => ?_) (fun v92 => ?_)
  · have h15_ : v88 = (Bo (inI A_c.width 1 12)) := hF.1
    have h18_ : (inI A_c.width 1 12) = true → v91 = (Bo (inI A_c.height 1 12)) := hF.2.1
    clear hF
    refine doesG_un rfl ?_
    skip
    obtain rfl := h15_
    refine (does_pick (b := (inI A_c.width 1 12)) (u := v91) (v := (Bo false)) (ev rfl) (ev rfl) (ev rfl)).mono ?_; rintro _ _ ⟨rfl, rfl⟩; refine ⟨?_, Ext.refl _⟩; rw [hβ1]; skip
    cases hbb : (inI A_c.width 1 12)
    all_goals first | (show _ = _; simp only [↓reduceIte, Bool.true_and, Bool.false_and, Bool.true_or, Bool.false_or, Bool.false_eq_true]; done) | (have e_ := h18_ hbb; subst e_; show _ = _; simp only [↓reduceIte, Bool.true_and, Bool.false_and, Bool.true_or, Bool.false_or, Bool.false_eq_true]; done) | rfl | (have e_ := h18_ hbb; subst e_; rfl) | (simp [hbb] at h18_ ⊢; first | done | rfl | (subst h18_; rfl) | simp_all) | (simp [hbb] at h18_ ⊢; done)
  refine RW_d _ rfl (fun v => by dsimp only [List.set]; try rfl) (fun u hu hF => ?_) (fun v93 => ?_)
  · have h19_ : v92 = (Bo β1) := hF.1
    clear hF
    refine doesG_un rfl ?_
    obtain rfl := h19_
    refine (does_move (u := (Bo β1)) (ev rfl)).mono ?_; rintro _ _ ⟨rfl, rfl⟩
    exact ⟨rfl, Ext.refl _⟩
  refine RW_d _ rfl (fun v => by dsimp only [List.set]; try rfl) (fun u hu hF => ?_) (fun v94 => ?_)
  · have h20_ : v93 = (Bo β1) := hF.1
    clear hF
    obtain rfl := h20_
    refine doesG_g (b := β1) rfl (yld rfl rfl) (fun hg1 => ?_) (fun hc => ⟨fun hg1 => absurd hg1 hc, Ext.refl _⟩)
    refine (does_fieldAddr (ev rfl) fa60_2).mono ?_; rintro _ _ ⟨rfl, rfl⟩
    exact ⟨fun _ => rfl, Ext.refl _⟩
  refine RW_d _ rfl (fun v => by dsimp only [List.set]; try rfl) (fun u hu hF => ?_) (fun v95 => ?_)
  · have h21_ : β1 = true → v94 = (Pt b16 6) := hF.1
    have h20_ : v93 = (Bo β1) := hF.2.1
    clear hF
    obtain rfl := h20_
    refine doesG_g (b := β1) rfl (yld rfl rfl) (fun hg1 => ?_) (fun hc => ⟨fun hg1 => absurd hg1 hc, Ext.refl _⟩)
    obtain rfl := h21_ hg1
    refine (does_load (u := (Fl r13)) (ev rfl) Try.isAgg38 (Cells.at (Blk.cells ((((((((hB18.ext E24).ext E48).ext E56).ext E65).wr W72 (Nat.ne_of_lt n50)).wr W76 (Nat.ne_of_lt n58)).wr W80 (Nat.ne_of_lt n67)).ext hu)) 6 rfl)).mono ?_; rintro _ _ ⟨rfl, rfl⟩
    exact ⟨fun _ => rfl, Ext.refl _⟩
  refine RW_d _ rfl (fun v => by dsimp only [List.set]; try rfl) (fun u hu hF => ?_) (fun v96 => ?_)
  · have h22_ : β1 = true → v95 = (Fl r13) := hF.1
    have h20_ : v93 = (Bo β1) := hF.2.1
    clear hF
    obtain rfl := h20_
    refine doesG_g (b := β1) rfl (yld rfl rfl) (fun hg1 => ?_) (fun hc => ⟨fun hg1 => absurd hg1 hc, Ext.refl _⟩)
    obtain rfl := h22_ hg1
    refine (does_call (args := #[(Fl r13)]) cal76 (evs rfl) (c_impl_stepOk r13 _)).mono ?_; rintro v u' ⟨hx, hv⟩
    exact ⟨fun _ => hv.trans (by simp only [hβ2]), hx⟩
  refine RW_d _ rfl (fun v => by dsimp only [List.set]; try rfl) (fun u hu hF => ?_) (fun v97 => ?_)
  · have h20_ : v93 = (Bo β1) := hF.1
    have h23_ : β1 = true → v96 = (Bo β2) := hF.2.1
    clear hF
    refine doesG_un rfl ?_
    skip
    obtain rfl := h20_
    refine (does_pick (b := β1) (u := v96) (v := (Bo false)) (ev rfl) (ev rfl) (ev rfl)).mono ?_; rintro _ _ ⟨rfl, rfl⟩; refine ⟨?_, Ext.refl _⟩; skip
    cases hbb : β1
    all_goals first | (show _ = _; simp only [↓reduceIte, Bool.true_and, Bool.false_and, Bool.true_or, Bool.false_or, Bool.false_eq_true]; done) | (have e_ := h23_ hbb; subst e_; show _ = _; simp only [↓reduceIte, Bool.true_and, Bool.false_and, Bool.true_or, Bool.false_or, Bool.false_eq_true]; done) | rfl | (have e_ := h23_ hbb; subst e_; rfl) | (simp [hbb] at h23_ ⊢; first | done | rfl | (subst h23_; rfl) | simp_all) | (simp [hbb] at h23_ ⊢; done)
  refine RW_fin ?_; intro w98 E99 hP100
  obtain ⟨⟨⟨⟨⟨⟨⟨⟨⟨⟨⟨⟨⟨-, -⟩, -⟩, -⟩, -⟩, -⟩, -⟩, -⟩, -⟩, -⟩, -⟩, -⟩, -⟩, q101⟩ := hP100
  have X102 := Ext.gr X83 E99
  have q101 : v97 = (Bo (β1 && β2)) := q101
  obtain rfl := q101
  show wpList _ _ _ _ (fr [_, _, _, _, _, _, _, _, _, _, _, _, _, _, _, _, _, _, _, _, _, _, _, _, _, _, _, _, _, _, _, _, _, _, _, _, _, _, _, _, _, _, _, _, _, _]) _
  refine q_is rfl rfl (does_assign (u := (Bo (β1 && β2))) (ev rfl)) (by dsimp only [List.set]; try rfl) ?_
  refine wpList_nil (hK84 _ _ ?_)
  refine wp_seq_k fun K103 hK103 => ?_
  obtain ⟨β3, hβ3⟩ : ∃ b : Bool, b = ((β1 && β2) && (finV A_c.frm)) := ⟨_, rfl⟩
  obtain ⟨β4, hβ4⟩ : ∃ b : Bool, b = ((β3 && (finV A_c.to)) && (!(zeroV (rgtC A_c)))) := ⟨_, rfl⟩
  obtain ⟨β5, hβ5⟩ : ∃ b : Bool, b = (β4 && (!(zeroV (fwdC A_c)))) := ⟨_, rfl⟩
  refine region_text (
    [Fact.pure [] (fun v => v = (Bo (β1 && β2))),
    Fact.pure [25] (fun v => v = (Bo (β1 && β2))),
    Fact.pure [26] (fun v => (β1 && β2) = true → v = (Pt b16 0)),
    Fact.pure [27, 26] (fun v => (β1 && β2) = true → v = (.agg #[(Fl r1), (Fl r3), (Fl r5)])),
    Fact.pure [28, 26] (fun v => (β1 && β2) = true → v = (Bo (finV A_c.frm))),
    Fact.pure [26, 29] (fun v => v = (Bo β3)),
    Fact.pure [30] (fun v => v = (Bo β3)),
    Fact.pure [31] (fun v => β3 = true → v = (Pt b16 3)),
    Fact.pure [32, 31] (fun v => β3 = true → v = (.agg #[(Fl r7), (Fl r9), (Fl r11)])),
    Fact.pure [33, 31] (fun v => β3 = true → v = (Bo (finV A_c.to))),
    Fact.pure [31, 34] (fun v => v = (Bo (β3 && (finV A_c.to)))),
    Fact.pure [35] (fun v => v = (Bo (β3 && (finV A_c.to)))),
    Fact.pure [36] (fun v => (β3 && (finV A_c.to)) = true → v = (.agg #[(Fl r26), (Fl r28), (Fl r30)])),
    Fact.pure [37, 36] (fun v => (β3 && (finV A_c.to)) = true → v = (Bo (zeroV (rgtC A_c)))),
    Fact.pure [38, 36] (fun v => (β3 && (finV A_c.to)) = true → v = (Bo (!(zeroV (rgtC A_c))))),
    Fact.pure [36, 39] (fun v => v = (Bo β4)),
    Fact.pure [40] (fun v => v = (Bo β4)),
    Fact.pure [41] (fun v => β4 = true → v = (.agg #[(Fl r38), (Fl r40), (Fl r42)])),
    Fact.pure [42, 41] (fun v => β4 = true → v = (Bo (zeroV (fwdC A_c)))),
    Fact.pure [43, 41] (fun v => β4 = true → v = (Bo (!(zeroV (fwdC A_c))))),
    Fact.pure [41, 44] (fun v => v = (Bo β5))]) (by simp [Fact.pure, Fact.mem]) ?_
  refine RW_d _ rfl (fun v => by dsimp only [List.set]; try rfl) (fun u hu hF => ?_) (fun v104 => ?_)
  · clear hF
    refine doesG_un rfl ?_
    refine (does_move (u := (Bo (β1 && β2))) (ev rfl)).mono ?_; rintro _ _ ⟨rfl, rfl⟩
    exact ⟨rfl, Ext.refl _⟩
  refine RW_d _ rfl (fun v => by dsimp only [List.set]; try rfl) (fun u hu hF => ?_) (fun v105 => ?_)
  · have h25_ : v104 = (Bo (β1 && β2)) := hF.1
    clear hF
    refine doesG_un rfl ?_
    obtain rfl := h25_
    refine (does_move (u := (Bo (β1 && β2))) (ev rfl)).mono ?_; rintro _ _ ⟨rfl, rfl⟩
    exact ⟨rfl, Ext.refl _⟩
  refine RW_d _ rfl (fun v => by dsimp only [List.set]; try rfl) (fun u hu hF => ?_) (fun v106 => ?_)
  · have h26_ : v105 = (Bo (β1 && β2)) := hF.1
    clear hF
    obtain rfl := h26_
    refine doesG_g (b := (β1 && β2)) rfl (yld rfl rfl) (fun hg1 => ?_) (fun hc => ⟨fun hg1 => absurd hg1 hc, Ext.refl _⟩)
    refine (does_fieldAddr (ev rfl) fa60_0).mono ?_; rintro _ _ ⟨rfl, rfl⟩
    exact ⟨fun _ => rfl, Ext.refl _⟩
  refine RW_d _ rfl (fun v => by dsimp only [List.set]; try rfl) (fun u hu hF => ?_) (fun v107 => ?_)
  · have h27_ : (β1 && β2) = true → v106 = (Pt b16 0) := hF.1
    have h26_ : v105 = (Bo (β1 && β2)) := hF.2.1
    clear hF
    obtain rfl := h26_
    refine doesG_g (b := (β1 && β2)) rfl (yld rfl rfl) (fun hg1 => ?_) (fun hc => ⟨fun hg1 => absurd hg1 hc, Ext.refl _⟩)
    obtain rfl := h27_ hg1
    refine (does_loadAgg (cs := [(Fl r1), (Fl r3), (Fl r5)]) (ev rfl) Try.isAgg40 Try.sizeOf40 (Cells.sub (Blk.cells (((((((((hB18.ext E24).ext E48).ext E56).ext E65).wr W72 (Nat.ne_of_lt n50)).wr W76 (Nat.ne_of_lt n58)).wr W80 (Nat.ne_of_lt n67)).ext E99).ext hu)) 0 3) rfl).mono ?_; rintro _ _ ⟨rfl, rfl⟩
    exact ⟨fun _ => rfl, Ext.refl _⟩
  refine RW_d _ rfl (fun v => by dsimp only [List.set]; try rfl) (fun u hu hF => ?_) (fun v108 => ?_)
  · have h28_ : (β1 && β2) = true → v107 = (.agg #[(Fl r1), (Fl r3), (Fl r5)]) := hF.1
    have h26_ : v105 = (Bo (β1 && β2)) := hF.2.1
    clear hF
    obtain rfl := h26_
    refine doesG_g (b := (β1 && β2)) rfl (yld rfl rfl) (fun hg1 => ?_) (fun hc => ⟨fun hg1 => absurd hg1 hc, Ext.refl _⟩)
    obtain rfl := h28_ hg1
    refine (does_call (args := #[(.agg #[(Fl r1), (Fl r3), (Fl r5)])]) cal45 (evs rfl) (c_impl_finiteVector [(Fl r1), (Fl r3), (Fl r5)] A_c.frm _ ⟨r1, r3, r5, rfl, h2, h4, h6⟩)).mono ?_; rintro v u' ⟨hx, hv⟩
    exact ⟨fun _ => hv, hx⟩
  refine RW_d _ rfl (fun v => by dsimp only [List.set]; try rfl) (fun u hu hF => ?_) (fun v109 => ?_)
  · have h26_ : v105 = (Bo (β1 && β2)) := hF.1
    have h29_ : (β1 && β2) = true → v108 = (Bo (finV A_c.frm)) := hF.2.1
    clear hF
    refine doesG_un rfl ?_
    skip
    obtain rfl := h26_
    refine (does_pick (b := (β1 && β2)) (u := v108) (v := (Bo false)) (ev rfl) (ev rfl) (ev rfl)).mono ?_; rintro _ _ ⟨rfl, rfl⟩; refine ⟨?_, Ext.refl _⟩; rw [hβ3]; skip
    cases hbb : (β1 && β2)
    all_goals first | (show _ = _; simp only [↓reduceIte, Bool.true_and, Bool.false_and, Bool.true_or, Bool.false_or, Bool.false_eq_true]; done) | (have e_ := h29_ hbb; subst e_; show _ = _; simp only [↓reduceIte, Bool.true_and, Bool.false_and, Bool.true_or, Bool.false_or, Bool.false_eq_true]; done) | rfl | (have e_ := h29_ hbb; subst e_; rfl) | (simp [hbb] at h29_ ⊢; first | done | rfl | (subst h29_; rfl) | simp_all) | (simp [hbb] at h29_ ⊢; done)
  refine RW_d _ rfl (fun v => by dsimp only [List.set]; try rfl) (fun u hu hF => ?_) (fun v110 => ?_)
  · have h30_ : v109 = (Bo β3) := hF.1
    clear hF
    refine doesG_un rfl ?_
    obtain rfl := h30_
    refine (does_move (u := (Bo β3)) (ev rfl)).mono ?_; rintro _ _ ⟨rfl, rfl⟩
    exact ⟨rfl, Ext.refl _⟩
  refine RW_d _ rfl (fun v => by dsimp only [List.set]; try rfl) (fun u hu hF => ?_) (fun v111 => ?_)
  · have h31_ : v110 = (Bo β3) := hF.1
    clear hF
    obtain rfl := h31_
    refine doesG_g (b := β3) rfl (yld rfl rfl) (fun hg1 => ?_) (fun hc => ⟨fun hg1 => absurd hg1 hc, Ext.refl _⟩)
    refine (does_fieldAddr (ev rfl) fa60_1).mono ?_; rintro _ _ ⟨rfl, rfl⟩
    exact ⟨fun _ => rfl, Ext.refl _⟩
  refine RW_d _ rfl (fun v => by dsimp only [List.set]; try rfl) (fun u hu hF => ?_) (fun v112 => ?_)
  · have h32_ : β3 = true → v111 = (Pt b16 3) := hF.1
    have h31_ : v110 = (Bo β3) := hF.2.1
    clear hF
    obtain rfl := h31_
    refine doesG_g (b := β3) rfl (yld rfl rfl) (fun hg1 => ?_) (fun hc => ⟨fun hg1 => absurd hg1 hc, Ext.refl _⟩)
    obtain rfl := h32_ hg1
    refine (does_loadAgg (cs := [(Fl r7), (Fl r9), (Fl r11)]) (ev rfl) Try.isAgg40 Try.sizeOf40 (Cells.sub (Blk.cells (((((((((hB18.ext E24).ext E48).ext E56).ext E65).wr W72 (Nat.ne_of_lt n50)).wr W76 (Nat.ne_of_lt n58)).wr W80 (Nat.ne_of_lt n67)).ext E99).ext hu)) 3 3) rfl).mono ?_; rintro _ _ ⟨rfl, rfl⟩
    exact ⟨fun _ => rfl, Ext.refl _⟩
  refine RW_d _ rfl (fun v => by dsimp only [List.set]; try rfl) (fun u hu hF => ?_) (fun v113 => ?_)
  · have h33_ : β3 = true → v112 = (.agg #[(Fl r7), (Fl r9), (Fl r11)]) := hF.1
    have h31_ : v110 = (Bo β3) := hF.2.1
    clear hF
    obtain rfl := h31_
    refine doesG_g (b := β3) rfl (yld rfl rfl) (fun hg1 => ?_) (fun hc => ⟨fun hg1 => absurd hg1 hc, Ext.refl _⟩)
    obtain rfl := h33_ hg1
    refine (does_call (args := #[(.agg #[(Fl r7), (Fl r9), (Fl r11)])]) cal45 (evs rfl) (c_impl_finiteVector [(Fl r7), (Fl r9), (Fl r11)] A_c.to _ ⟨r7, r9, r11, rfl, h8, h10, h12⟩)).mono ?_; rintro v u' ⟨hx, hv⟩
    exact ⟨fun _ => hv, hx⟩
  refine RW_d _ rfl (fun v => by dsimp only [List.set]; try rfl) (fun u hu hF => ?_) (fun v114 => ?_)
  · have h31_ : v110 = (Bo β3) := hF.1
    have h34_ : β3 = true → v113 = (Bo (finV A_c.to)) := hF.2.1
    clear hF
    refine doesG_un rfl ?_
    skip
    obtain rfl := h31_
    refine (does_pick (b := β3) (u := v113) (v := (Bo false)) (ev rfl) (ev rfl) (ev rfl)).mono ?_; rintro _ _ ⟨rfl, rfl⟩; refine ⟨?_, Ext.refl _⟩; skip
    cases hbb : β3
    all_goals first | (show _ = _; simp only [↓reduceIte, Bool.true_and, Bool.false_and, Bool.true_or, Bool.false_or, Bool.false_eq_true]; done) | (have e_ := h34_ hbb; subst e_; show _ = _; simp only [↓reduceIte, Bool.true_and, Bool.false_and, Bool.true_or, Bool.false_or, Bool.false_eq_true]; done) | rfl | (have e_ := h34_ hbb; subst e_; rfl) | (simp [hbb] at h34_ ⊢; first | done | rfl | (subst h34_; rfl) | simp_all) | (simp [hbb] at h34_ ⊢; done)
  refine RW_d _ rfl (fun v => by dsimp only [List.set]; try rfl) (fun u hu hF => ?_) (fun v115 => ?_)
  · have h35_ : v114 = (Bo (β3 && (finV A_c.to))) := hF.1
    clear hF
    refine doesG_un rfl ?_
    obtain rfl := h35_
    refine (does_move (u := (Bo (β3 && (finV A_c.to)))) (ev rfl)).mono ?_; rintro _ _ ⟨rfl, rfl⟩
    exact ⟨rfl, Ext.refl _⟩
  refine RW_d _ rfl (fun v => by dsimp only [List.set]; try rfl) (fun u hu hF => ?_) (fun v116 => ?_)
  · have h36_ : v115 = (Bo (β3 && (finV A_c.to))) := hF.1
    clear hF
    obtain rfl := h36_
    refine doesG_g (b := (β3 && (finV A_c.to))) rfl (yld rfl rfl) (fun hg1 => ?_) (fun hc => ⟨fun hg1 => absurd hg1 hc, Ext.refl _⟩)
    refine (does_loadAgg (cs := [(Fl r26), (Fl r28), (Fl r30)]) (ev rfl) Try.isAgg40 Try.sizeOf40 (Blk.cells ((((hB73.wr W76 (Nat.ne_of_lt n59)).wr W80 (Nat.ne_of_lt n68)).ext E99).ext hu)) rfl).mono ?_; rintro _ _ ⟨rfl, rfl⟩
    exact ⟨fun _ => rfl, Ext.refl _⟩
  refine RW_d _ rfl (fun v => by dsimp only [List.set]; try rfl) (fun u hu hF => ?_) (fun v117 => ?_)
  · have h37_ : (β3 && (finV A_c.to)) = true → v116 = (.agg #[(Fl r26), (Fl r28), (Fl r30)]) := hF.1
    have h36_ : v115 = (Bo (β3 && (finV A_c.to))) := hF.2.1
    clear hF
    obtain rfl := h36_
    refine doesG_g (b := (β3 && (finV A_c.to))) rfl (yld rfl rfl) (fun hg1 => ?_) (fun hc => ⟨fun hg1 => absurd hg1 hc, Ext.refl _⟩)
    obtain rfl := h37_ hg1
    refine (does_call (args := #[(.agg #[(Fl r26), (Fl r28), (Fl r30)])]) cal77 (evs rfl) (c_impl_isZero [(Fl r26), (Fl r28), (Fl r30)] (rgtC A_c) _ ⟨r26, r28, r30, rfl, h27, h29, h31⟩)).mono ?_; rintro v u' ⟨hx, hv⟩
    exact ⟨fun _ => hv, hx⟩
  refine RW_d _ rfl (fun v => by dsimp only [List.set]; try rfl) (fun u hu hF => ?_) (fun v118 => ?_)
  · have h38_ : (β3 && (finV A_c.to)) = true → v117 = (Bo (zeroV (rgtC A_c))) := hF.1
    have h36_ : v115 = (Bo (β3 && (finV A_c.to))) := hF.2.1
    clear hF
    obtain rfl := h36_
    refine doesG_g (b := (β3 && (finV A_c.to))) rfl (yld rfl rfl) (fun hg1 => ?_) (fun hc => ⟨fun hg1 => absurd hg1 hc, Ext.refl _⟩)
    obtain rfl := h38_ hg1
    refine (does_not (ev rfl)).mono ?_; rintro _ _ ⟨rfl, rfl⟩
    exact ⟨fun _ => rfl, Ext.refl _⟩
  refine RW_d _ rfl (fun v => by dsimp only [List.set]; try rfl) (fun u hu hF => ?_) (fun v119 => ?_)
  · have h36_ : v115 = (Bo (β3 && (finV A_c.to))) := hF.1
    have h39_ : (β3 && (finV A_c.to)) = true → v118 = (Bo (!(zeroV (rgtC A_c)))) := hF.2.1
    clear hF
    refine doesG_un rfl ?_
    skip
    obtain rfl := h36_
    refine (does_pick (b := (β3 && (finV A_c.to))) (u := v118) (v := (Bo false)) (ev rfl) (ev rfl) (ev rfl)).mono ?_; rintro _ _ ⟨rfl, rfl⟩; refine ⟨?_, Ext.refl _⟩; rw [hβ4]; skip
    cases hbb : (β3 && (finV A_c.to))
    all_goals first | (show _ = _; simp only [↓reduceIte, Bool.true_and, Bool.false_and, Bool.true_or, Bool.false_or, Bool.false_eq_true]; done) | (have e_ := h39_ hbb; subst e_; show _ = _; simp only [↓reduceIte, Bool.true_and, Bool.false_and, Bool.true_or, Bool.false_or, Bool.false_eq_true]; done) | rfl | (have e_ := h39_ hbb; subst e_; rfl) | (simp [hbb] at h39_ ⊢; first | done | rfl | (subst h39_; rfl) | simp_all) | (simp [hbb] at h39_ ⊢; done)
  refine RW_d _ rfl (fun v => by dsimp only [List.set]; try rfl) (fun u hu hF => ?_) (fun v120 => ?_)
  · have h40_ : v119 = (Bo β4) := hF.1
    clear hF
    refine doesG_un rfl ?_
    obtain rfl := h40_
    refine (does_move (u := (Bo β4)) (ev rfl)).mono ?_; rintro _ _ ⟨rfl, rfl⟩
    exact ⟨rfl, Ext.refl _⟩
  refine RW_d _ rfl (fun v => by dsimp only [List.set]; try rfl) (fun u hu hF => ?_) (fun v121 => ?_)
  · have h41_ : v120 = (Bo β4) := hF.1
    clear hF
    obtain rfl := h41_
    refine doesG_g (b := β4) rfl (yld rfl rfl) (fun hg1 => ?_) (fun hc => ⟨fun hg1 => absurd hg1 hc, Ext.refl _⟩)
    refine (does_loadAgg (cs := [(Fl r38), (Fl r40), (Fl r42)]) (ev rfl) Try.isAgg40 Try.sizeOf40 (Blk.cells ((hB81.ext E99).ext hu)) rfl).mono ?_; rintro _ _ ⟨rfl, rfl⟩
    exact ⟨fun _ => rfl, Ext.refl _⟩
  refine RW_d _ rfl (fun v => by dsimp only [List.set]; try rfl) (fun u hu hF => ?_) (fun v122 => ?_)
  · have h42_ : β4 = true → v121 = (.agg #[(Fl r38), (Fl r40), (Fl r42)]) := hF.1
    have h41_ : v120 = (Bo β4) := hF.2.1
    clear hF
    obtain rfl := h41_
    refine doesG_g (b := β4) rfl (yld rfl rfl) (fun hg1 => ?_) (fun hc => ⟨fun hg1 => absurd hg1 hc, Ext.refl _⟩)
    obtain rfl := h42_ hg1
    refine (does_call (args := #[(.agg #[(Fl r38), (Fl r40), (Fl r42)])]) cal77 (evs rfl) (c_impl_isZero [(Fl r38), (Fl r40), (Fl r42)] (fwdC A_c) _ ⟨r38, r40, r42, rfl, h39, h41, h43⟩)).mono ?_; rintro v u' ⟨hx, hv⟩
    exact ⟨fun _ => hv, hx⟩
  refine RW_d _ rfl (fun v => by dsimp only [List.set]; try rfl) (fun u hu hF => ?_) (fun v123 => ?_)
  · have h43_ : β4 = true → v122 = (Bo (zeroV (fwdC A_c))) := hF.1
    have h41_ : v120 = (Bo β4) := hF.2.1
    clear hF
    obtain rfl := h41_
    refine doesG_g (b := β4) rfl (yld rfl rfl) (fun hg1 => ?_) (fun hc => ⟨fun hg1 => absurd hg1 hc, Ext.refl _⟩)
    obtain rfl := h43_ hg1
    refine (does_not (ev rfl)).mono ?_; rintro _ _ ⟨rfl, rfl⟩
    exact ⟨fun _ => rfl, Ext.refl _⟩
  refine RW_d _ rfl (fun v => by dsimp only [List.set]; try rfl) (fun u hu hF => ?_) (fun v124 => ?_)
  · have h41_ : v120 = (Bo β4) := hF.1
    have h44_ : β4 = true → v123 = (Bo (!(zeroV (fwdC A_c)))) := hF.2.1
    clear hF
    refine doesG_un rfl ?_
    skip
    obtain rfl := h41_
    refine (does_pick (b := β4) (u := v123) (v := (Bo false)) (ev rfl) (ev rfl) (ev rfl)).mono ?_; rintro _ _ ⟨rfl, rfl⟩; refine ⟨?_, Ext.refl _⟩; rw [hβ5]; skip
    cases hbb : β4
    all_goals first | (show _ = _; simp only [↓reduceIte, Bool.true_and, Bool.false_and, Bool.true_or, Bool.false_or, Bool.false_eq_true]; done) | (have e_ := h44_ hbb; subst e_; show _ = _; simp only [↓reduceIte, Bool.true_and, Bool.false_and, Bool.true_or, Bool.false_or, Bool.false_eq_true]; done) | rfl | (have e_ := h44_ hbb; subst e_; rfl) | (simp [hbb] at h44_ ⊢; first | done | rfl | (subst h44_; rfl) | simp_all) | (simp [hbb] at h44_ ⊢; done)
  refine RW_fin ?_; intro w125 E126 hP127
  obtain ⟨⟨⟨⟨⟨⟨⟨⟨⟨⟨⟨⟨⟨⟨⟨⟨⟨⟨⟨⟨⟨-, -⟩, -⟩, -⟩, -⟩, -⟩, -⟩, -⟩, -⟩, -⟩, -⟩, -⟩, -⟩, -⟩, -⟩, -⟩, -⟩, -⟩, -⟩, -⟩, -⟩, q128⟩ := hP127
  have X129 := Ext.gr X102 E126
  have q128 : v124 = (Bo β5) := q128
  obtain rfl := q128
  show wpList _ _ _ _ (fr [_, _, _, _, _, _, _, _, _, _, _, _, _, _, _, _, _, _, _, _, _, _, _, _, _, _, _, _, _, _, _, _, _, _, _, _, _, _, _, _, _, _, _, _, _, _]) _
  refine q_is rfl rfl (does_assign (u := (Bo β5)) (ev rfl)) (by dsimp only [List.set]; try rfl) ?_
  refine wpList_nil (hK103 _ _ ?_)
  refine wp_ret ?_
  refine ret_val (v := (Bo β5)) (res_T rfl (slot rfl)) X129 ?_
  have x130 : (isCam A_c) = β5 := by unfold isCam; rw [some_fwd, some_rgt]; simp only [h2, h4, h6, h8, h10, h12, h14, h27, h29, h31, h33, h35, h37, h39, h41, h43, hβ1, hβ2, hβ3, hβ4, hβ5]; first | rfl | ac_rfl
  exact (by first | with_reducible rfl | rw [x130] | rfl)

/- impl.ValidMarch -/
theorem c_impl_ValidMarch (m_ : List Value) (A_m_ : MarchT) (w : World) (hv_m_ : RMarchT w A_m_ m_) : Gives Try.prog 44 #[(.agg m_.toArray)] w (fun v w' => v = (Bo (marchOk A_m_))) := by
  obtain ⟨r1, r3, rfl, h2, h4⟩ := hv_m_
  refine enter [(.agg #[(Fl r1), (Fl r3), (Iv A_m_.steps)]), Ud, Ud, Ud, Ud, Ud, Ud, Ud, Ud, Ud, Ud, Ud, Ud, Ud, Ud, Ud, Ud, Ud, Ud, Ud, Ud] Try.func44 rfl Try.ntmps44 rfl ?_
  refine wp_seq_k fun K5 hK5 => ?_
  refine wp_region_lit ?_
  refine seqd rfl rfl (does_box (u := (.agg #[(Fl r1), (Fl r3), (Iv A_m_.steps)])) (ev rfl)) ?_; rintro _ w10 ⟨b6, rfl, hb7, hB8, E9⟩
  have g11 : w.heap.size ≤ b6 := Nat.le_trans (Below.size (Ext.refl w)) hb7
  change Blk _ _ [(Fl r1), (Fl r3), (Iv A_m_.steps)] at hB8
  have X12 := Ext.gr (Ext.refl w) E9
  show wpList _ _ _ _ (fr [(.agg #[(Fl r1), (Fl r3), (Iv A_m_.steps)]), (Pt b6 0), Ud, Ud, Ud, Ud, Ud, Ud, Ud, Ud, Ud, Ud, Ud, Ud, Ud, Ud, Ud, Ud, Ud, Ud, Ud]) _
  refine q_is (l' := [(.agg #[(Fl r1), (Fl r3), (Iv A_m_.steps)]), (Pt b6 0), (Bo false), Ud, Ud, Ud, Ud, Ud, Ud, Ud, Ud, Ud, Ud, Ud, Ud, Ud, Ud, Ud, Ud, Ud, Ud]) rfl rfl (does_assign (u := (Bo false)) (ev rfl)) rfl ?_
  refine wpList_nil (hK5 _ _ ?_)
  refine wp_seq_k fun K13 hK13 => ?_
  obtain ⟨β1, hβ1⟩ : ∃ b : Bool, b = (finF (cf .f32 r1) && posF (cf .f32 r1)) := ⟨_, rfl⟩
  obtain ⟨β2, hβ2⟩ : ∃ b : Bool, b = (β1 && (finF (cf .f32 r3))) := ⟨_, rfl⟩
  obtain ⟨β3, hβ3⟩ : ∃ b : Bool, b = (fcmp .geq (ford .f32 (cf .f32 r3) (cf .f32 0))) := ⟨_, rfl⟩
  obtain ⟨β4, hβ4⟩ : ∃ b : Bool, b = ((β2 && β3) && (inI A_m_.steps 1 64)) := ⟨_, rfl⟩
  refine region_text (
    [Fact.pure [] (fun v => v = (Pt b6 0)),
    Fact.pure [3] (fun v => v = (Fl r1)),
    Fact.pure [4] (fun v => v = (Bo β1)),
    Fact.pure [5] (fun v => v = (Bo β1)),
    Fact.pure [6] (fun v => β1 = true → v = (Pt b6 1)),
    Fact.pure [7, 6] (fun v => β1 = true → v = (Fl r3)),
    Fact.pure [8, 6] (fun v => β1 = true → v = (Bo (finF (cf .f32 r3)))),
    Fact.pure [6, 9] (fun v => v = (Bo β2)),
    Fact.pure [10] (fun v => v = (Bo β2)),
    Fact.pure [11] (fun v => β2 = true → v = (Pt b6 1)),
    Fact.pure [12, 11] (fun v => β2 = true → v = (Fl r3)),
    Fact.pure [13, 11] (fun v => β2 = true → v = (Bo β3)),
    Fact.pure [11, 14] (fun v => v = (Bo (β2 && β3))),
    Fact.pure [15] (fun v => v = (Bo (β2 && β3))),
    Fact.pure [16] (fun v => (β2 && β3) = true → v = (Pt b6 2)),
    Fact.pure [17, 16] (fun v => (β2 && β3) = true → v = (Iv A_m_.steps)),
    Fact.pure [18, 16] (fun v => (β2 && β3) = true → v = (Bo (inI A_m_.steps 1 64))),
    Fact.pure [16, 19] (fun v => v = (Bo β4))]) (by simp [Fact.pure, Fact.mem]) ?_
  refine RW_d (fun v14 => [(.agg #[(Fl r1), (Fl r3), (Iv A_m_.steps)]), (Pt b6 0), (Bo false), v14, Ud, Ud, Ud, Ud, Ud, Ud, Ud, Ud, Ud, Ud, Ud, Ud, Ud, Ud, Ud, Ud, Ud]) rfl (fun _ => rfl) (fun u hu hF => ?_) (fun v14 => ?_)
  · clear hF
    refine doesG_un rfl ?_
    refine (does_fieldAddr (ev rfl) fa61_0).mono ?_; rintro _ _ ⟨rfl, rfl⟩
    exact ⟨rfl, Ext.refl _⟩
  refine RW_d (fun v15 => [(.agg #[(Fl r1), (Fl r3), (Iv A_m_.steps)]), (Pt b6 0), (Bo false), v14, v15, Ud, Ud, Ud, Ud, Ud, Ud, Ud, Ud, Ud, Ud, Ud, Ud, Ud, Ud, Ud, Ud]) rfl (fun _ => rfl) (fun u hu hF => ?_) (fun v15 => ?_)
  · have h3_ : v14 = (Pt b6 0) := hF.1
    clear hF
    refine doesG_un rfl ?_
    obtain rfl := h3_
    refine (does_load (u := (Fl r1)) (ev rfl) Try.isAgg38 (Cells.at (Blk.cells (hB8.ext hu)) 0 rfl)).mono ?_; rintro _ _ ⟨rfl, rfl⟩
    exact ⟨rfl, Ext.refl _⟩
  refine RW_d (fun v16 => [(.agg #[(Fl r1), (Fl r3), (Iv A_m_.steps)]), (Pt b6 0), (Bo false), v14, v15, v16, Ud, Ud, Ud, Ud, Ud, Ud, Ud, Ud, Ud, Ud, Ud, Ud, Ud, Ud, Ud]) rfl (fun _ => rfl) (fun u hu hF => ?_) (fun v16 => ?_)
  · have h4_ : v15 = (Fl r1) := hF.1
    clear hF
    refine doesG_un rfl ?_
    obtain rfl := h4_
    refine (does_call (args := #[(Fl r1)]) cal76 (evs rfl) (c_impl_stepOk r1 _)).mono ?_; rintro v u' ⟨hx, hv⟩
    exact ⟨hv.trans (by simp only [hβ1]), hx⟩
  refine RW_d (fun v17 => [(.agg #[(Fl r1), (Fl r3), (Iv A_m_.steps)]), (Pt b6 0), (Bo false), v14, v15, v16, v17, Ud, Ud, Ud, Ud, Ud, Ud, Ud, Ud, Ud, Ud, Ud, Ud, Ud, Ud]) rfl (fun _ => rfl) (fun u hu hF => ?_) (fun v17 => ?_)
  · have h5_ : v16 = (Bo β1) := hF.1
    clear hF
    refine doesG_un rfl ?_
    obtain rfl := h5_
    refine (does_move (u := (Bo β1)) (ev rfl)).mono ?_; rintro _ _ ⟨rfl, rfl⟩
    exact ⟨rfl, Ext.refl _⟩
  refine RW_d (fun v18 => [(.agg #[(Fl r1), (Fl r3), (Iv A_m_.steps)]), (Pt b6 0), (Bo false), v14, v15, v16, v17, v18, Ud, Ud, Ud, Ud, Ud, Ud, Ud, Ud, Ud, Ud, Ud, Ud, Ud]) rfl (fun _ => rfl) (fun u hu hF => ?_) (fun v18 => ?_)
  · have h6_ : v17 = (Bo β1) := hF.1
    clear hF
    obtain rfl := h6_
    refine doesG_g (b := β1) rfl (yld rfl rfl) (fun hg1 => ?_) (fun hc => ⟨fun hg1 => absurd hg1 hc, Ext.refl _⟩)
    refine (does_fieldAddr (ev rfl) fa61_1).mono ?_; rintro _ _ ⟨rfl, rfl⟩
    exact ⟨fun _ => rfl, Ext.refl _⟩
  refine RW_d (fun v19 => [(.agg #[(Fl r1), (Fl r3), (Iv A_m_.steps)]), (Pt b6 0), (Bo false), v14, v15, v16, v17, v18, v19, Ud, Ud, Ud, Ud, Ud, Ud, Ud, Ud, Ud, Ud, Ud, Ud]) rfl (fun _ => rfl) (fun u hu hF => ?_) (fun v19 => ?_)
  · have h7_ : β1 = true → v18 = (Pt b6 1) := hF.1
    have h6_ : v17 = (Bo β1) := hF.2.1
    clear hF
    obtain rfl := h6_
    refine doesG_g (b := β1) rfl (yld rfl rfl) (fun hg1 => ?_) (fun hc => ⟨fun hg1 => absurd hg1 hc, Ext.refl _⟩)
    obtain rfl := h7_ hg1
    refine (does_load (u := (Fl r3)) (ev rfl) Try.isAgg38 (Cells.at (Blk.cells (hB8.ext hu)) 1 rfl)).mono ?_; rintro _ _ ⟨rfl, rfl⟩
    exact ⟨fun _ => rfl, Ext.refl _⟩
  refine RW_d (fun v20 => [(.agg #[(Fl r1), (Fl r3), (Iv A_m_.steps)]), (Pt b6 0), (Bo false), v14, v15, v16, v17, v18, v19, v20, Ud, Ud, Ud, Ud, Ud, Ud, Ud, Ud, Ud, Ud, Ud]) rfl (fun _ => rfl) (fun u hu hF => ?_) (fun v20 => ?_)
  · have h8_ : β1 = true → v19 = (Fl r3) := hF.1
    have h6_ : v17 = (Bo β1) := hF.2.1
    clear hF
    obtain rfl := h6_
    refine doesG_g (b := β1) rfl (yld rfl rfl) (fun hg1 => ?_) (fun hc => ⟨fun hg1 => absurd hg1 hc, Ext.refl _⟩)
    obtain rfl := h8_ hg1
    refine (does_call (args := #[(Fl r3)]) cal78 (evs rfl) (c_impl_IsFinite r3 _)).mono ?_; rintro v u' ⟨hx, hv⟩
    exact ⟨fun _ => hv, hx⟩
  refine RW_d (fun v21 => [(.agg #[(Fl r1), (Fl r3), (Iv A_m_.steps)]), (Pt b6 0), (Bo false), v14, v15, v16, v17, v18, v19, v20, v21, Ud, Ud, Ud, Ud, Ud, Ud, Ud, Ud, Ud, Ud]) rfl (fun _ => rfl) (fun u hu hF => ?_) (fun v21 => ?_)
  · have h6_ : v17 = (Bo β1) := hF.1
    have h9_ : β1 = true → v20 = (Bo (finF (cf .f32 r3))) := hF.2.1
    clear hF
    refine doesG_un rfl ?_
    skip
    obtain rfl := h6_
    refine (does_pick (b := β1) (u := v20) (v := (Bo false)) (ev rfl) (ev rfl) (ev rfl)).mono ?_; rintro _ _ ⟨rfl, rfl⟩; refine ⟨?_, Ext.refl _⟩; rw [hβ2]; skip
    cases hbb : β1
    all_goals first | (show _ = _; simp only [↓reduceIte, Bool.true_and, Bool.false_and, Bool.true_or, Bool.false_or, Bool.false_eq_true]; done) | (have e_ := h9_ hbb; subst e_; show _ = _; simp only [↓reduceIte, Bool.true_and, Bool.false_and, Bool.true_or, Bool.false_or, Bool.false_eq_true]; done) | rfl | (have e_ := h9_ hbb; subst e_; rfl) | (simp [hbb] at h9_ ⊢; first | done | rfl | (subst h9_; rfl) | simp_all) | (simp [hbb] at h9_ ⊢; done)
  refine RW_d (fun v22 => [(.agg #[(Fl r1), (Fl r3), (Iv A_m_.steps)]), (Pt b6 0), (Bo false), v14, v15, v16, v17, v18, v19, v20, v21, v22, Ud, Ud, Ud, Ud, Ud, Ud, Ud, Ud, Ud]) rfl (fun _ => rfl) (fun u hu hF => ?_) (fun v22 => ?_)
  · have h10_ : v21 = (Bo β2) := hF.1
    clear hF
    refine doesG_un rfl ?_
    obtain rfl := h10_
    refine (does_move (u := (Bo β2)) (ev rfl)).mono ?_; rintro _ _ ⟨rfl, rfl⟩
    exact ⟨rfl, Ext.refl _⟩
  refine RW_d (fun v23 => [(.agg #[(Fl r1), (Fl r3), (Iv A_m_.steps)]), (Pt b6 0), (Bo false), v14, v15, v16, v17, v18, v19, v20, v21, v22, v23, Ud, Ud, Ud, Ud, Ud, Ud, Ud, Ud]) rfl (fun _ => rfl) (fun u hu hF => ?_) (fun v23 => ?_)
  · have h11_ : v22 = (Bo β2) := hF.1
    clear hF
    obtain rfl := h11_
    refine doesG_g (b := β2) rfl (yld rfl rfl) (fun hg1 => ?_) (fun hc => ⟨fun hg1 => absurd hg1 hc, Ext.refl _⟩)
    refine (does_fieldAddr (ev rfl) fa61_1).mono ?_; rintro _ _ ⟨rfl, rfl⟩
    exact ⟨fun _ => rfl, Ext.refl _⟩
  refine RW_d (fun v24 => [(.agg #[(Fl r1), (Fl r3), (Iv A_m_.steps)]), (Pt b6 0), (Bo false), v14, v15, v16, v17, v18, v19, v20, v21, v22, v23, v24, Ud, Ud, Ud, Ud, Ud, Ud, Ud]) rfl (fun _ => rfl) (fun u hu hF => ?_) (fun v24 => ?_)
  · have h12_ : β2 = true → v23 = (Pt b6 1) := hF.1
    have h11_ : v22 = (Bo β2) := hF.2.1
    clear hF
    obtain rfl := h11_
    refine doesG_g (b := β2) rfl (yld rfl rfl) (fun hg1 => ?_) (fun hc => ⟨fun hg1 => absurd hg1 hc, Ext.refl _⟩)
    obtain rfl := h12_ hg1
    refine (does_load (u := (Fl r3)) (ev rfl) Try.isAgg38 (Cells.at (Blk.cells (hB8.ext hu)) 1 rfl)).mono ?_; rintro _ _ ⟨rfl, rfl⟩
    exact ⟨fun _ => rfl, Ext.refl _⟩
  refine RW_d (fun v25 => [(.agg #[(Fl r1), (Fl r3), (Iv A_m_.steps)]), (Pt b6 0), (Bo false), v14, v15, v16, v17, v18, v19, v20, v21, v22, v23, v24, v25, Ud, Ud, Ud, Ud, Ud, Ud]) rfl (fun _ => rfl) (fun u hu hF => ?_) (fun v25 => ?_)
  · have h13_ : β2 = true → v24 = (Fl r3) := hF.1
    have h11_ : v22 = (Bo β2) := hF.2.1
    clear hF
    obtain rfl := h11_
    refine doesG_g (b := β2) rfl (yld rfl rfl) (fun hg1 => ?_) (fun hc => ⟨fun hg1 => absurd hg1 hc, Ext.refl _⟩)
    obtain rfl := h13_ hg1
    refine (does_fcmp (.inr (.inr (.inr (.inr (.inr rfl))))) (ev rfl) (ev rfl)).mono ?_; rintro _ _ ⟨rfl, rfl⟩
    exact ⟨fun _ => (by first | rfl | (show _ = _; simp only [hβ3]; done) | (show _ = _; simp only [hβ3]; rfl)), Ext.refl _⟩
  refine RW_d (fun v26 => [(.agg #[(Fl r1), (Fl r3), (Iv A_m_.steps)]), (Pt b6 0), (Bo false), v14, v15, v16, v17, v18, v19, v20, v21, v22, v23, v24, v25, v26, Ud, Ud, Ud, Ud, Ud]) rfl (fun _ => rfl) (fun u hu hF => ?_) (fun v26 => ?_)
  · have h11_ : v22 = (Bo β2) := hF.1
    have h14_ : β2 = true → v25 = (Bo β3) := hF.2.1
    clear hF
    refine doesG_un rfl ?_
    skip
    obtain rfl := h11_
    refine (does_pick (b := β2) (u := v25) (v := (Bo false)) (ev rfl) (ev rfl) (ev rfl)).mono ?_; rintro _ _ ⟨rfl, rfl⟩; refine ⟨?_, Ext.refl _⟩; skip
    cases hbb : β2
    all_goals first | (show _ = _; simp only [↓reduceIte, Bool.true_and, Bool.false_and, Bool.true_or, Bool.false_or, Bool.false_eq_true]; done) | (have e_ := h14_ hbb; subst e_; show _ = _; simp only [↓reduceIte, Bool.true_and, Bool.false_and, Bool.true_or, Bool.false_or, Bool.false_eq_true]; done) | rfl | (have e_ := h14_ hbb; subst e_; rfl) | (simp [hbb] at h14_ ⊢; first | done | rfl | (subst h14_; rfl) | simp_all) | (simp [hbb] at h14_ ⊢; done)
  refine RW_d (fun v27 => [(.agg #[(Fl r1), (Fl r3), (Iv A_m_.steps)]), (Pt b6 0), (Bo false), v14, v15, v16, v17, v18, v19, v20, v21, v22, v23, v24, v25, v26, v27, Ud, Ud, Ud, Ud]) rfl (fun _ => rfl) (fun u hu hF => ?_) (fun v27 => ?_)
  · have h15_ : v26 = (Bo (β2 && β3)) := hF.1
    clear hF
    refine doesG_un rfl ?_
    obtain rfl := h15_
    refine (does_move (u := (Bo (β2 && β3))) (ev rfl)).mono ?_; rintro _ _ ⟨rfl, rfl⟩
    exact ⟨rfl, Ext.refl _⟩
  refine RW_d (fun v28 => [(.agg #[(Fl r1), (Fl r3), (Iv A_m_.steps)]), (Pt b6 0), (Bo false), v14, v15, v16, v17, v18, v19, v20, v21, v22, v23, v24, v25, v26, v27, v28, Ud, Ud, Ud]) rfl (fun _ => rfl) (fun u hu hF => ?_) (fun v28 => ?_)
  · have h16_ : v27 = (Bo (β2 && β3)) := hF.1
    clear hF
    obtain rfl := h16_
    refine doesG_g (b := (β2 && β3)) rfl (yld rfl rfl) (fun hg1 => ?_) (fun hc => ⟨fun hg1 => absurd hg1 hc, Ext.refl _⟩)
    refine (does_fieldAddr (ev rfl) fa61_2).mono ?_; rintro _ _ ⟨rfl, rfl⟩
    exact ⟨fun _ => rfl, Ext.refl _⟩
  refine RW_d (fun v29 => [(.agg #[(Fl r1), (Fl r3), (Iv A_m_.steps)]), (Pt b6 0), (Bo false), v14, v15, v16, v17, v18, v19, v20, v21, v22, v23, v24, v25, v26, v27, v28, v29, Ud, Ud]) rfl (fun _ => rfl) (fun u hu hF => ?_) (fun v29 => ?_)
  · have h17_ : (β2 && β3) = true → v28 = (Pt b6 2) := hF.1
    have h16_ : v27 = (Bo (β2 && β3)) := hF.2.1
    clear hF
    obtain rfl := h16_
    refine doesG_g (b := (β2 && β3)) rfl (yld rfl rfl) (fun hg1 => ?_) (fun hc => ⟨fun hg1 => absurd hg1 hc, Ext.refl _⟩)
    obtain rfl := h17_ hg1
    refine (does_load (u := (Iv A_m_.steps)) (ev rfl) Try.isAgg2 (Cells.at (Blk.cells (hB8.ext hu)) 2 rfl)).mono ?_; rintro _ _ ⟨rfl, rfl⟩
    exact ⟨fun _ => rfl, Ext.refl _⟩
  refine RW_d (fun v30 => [(.agg #[(Fl r1), (Fl r3), (Iv A_m_.steps)]), (Pt b6 0), (Bo false), v14, v15, v16, v17, v18, v19, v20, v21, v22, v23, v24, v25, v26, v27, v28, v29, v30, Ud]) rfl (fun _ => rfl) (fun u hu hF => ?_) (fun v30 => ?_)
  · have h18_ : (β2 && β3) = true → v29 = (Iv A_m_.steps) := hF.1
    have h16_ : v27 = (Bo (β2 && β3)) := hF.2.1
    clear hF
    obtain rfl := h16_
    refine doesG_g (b := (β2 && β3)) rfl (yld rfl rfl) (fun hg1 => ?_) (fun hc => ⟨fun hg1 => absurd hg1 hc, Ext.refl _⟩)
    obtain rfl := h18_ hg1
    refine (does_call (args := #[(Iv A_m_.steps), (Iv 1), (Iv 64)]) cal55 (evs rfl) (c_impl_in A_m_.steps 1 64 _)).mono ?_; rintro v u' ⟨hx, hv⟩
    exact ⟨fun _ => hv, hx⟩
  refine RW_d (fun v31 => [(.agg #[(Fl r1), (Fl r3), (Iv A_m_.steps)]), (Pt b6 0), (Bo false), v14, v15, v16, v17, v18, v19, v20, v21, v22, v23, v24, v25, v26, v27, v28, v29, v30, v31]) rfl (fun _ => rfl) (fun u hu hF => ?_) (fun v31 => ?_)
  · have h16_ : v27 = (Bo (β2 && β3)) := hF.1
    have h19_ : (β2 && β3) = true → v30 = (Bo (inI A_m_.steps 1 64)) := hF.2.1
    clear hF
    refine doesG_un rfl ?_
    skip
    obtain rfl := h16_
    refine (does_pick (b := (β2 && β3)) (u := v30) (v := (Bo false)) (ev rfl) (ev rfl) (ev rfl)).mono ?_; rintro _ _ ⟨rfl, rfl⟩; refine ⟨?_, Ext.refl _⟩; rw [hβ4]; skip
    cases hbb : (β2 && β3)
    all_goals first | (show _ = _; simp only [↓reduceIte, Bool.true_and, Bool.false_and, Bool.true_or, Bool.false_or, Bool.false_eq_true]; done) | (have e_ := h19_ hbb; subst e_; show _ = _; simp only [↓reduceIte, Bool.true_and, Bool.false_and, Bool.true_or, Bool.false_or, Bool.false_eq_true]; done) | rfl | (have e_ := h19_ hbb; subst e_; rfl) | (simp [hbb] at h19_ ⊢; first | done | rfl | (subst h19_; rfl) | simp_all) | (simp [hbb] at h19_ ⊢; done)
  refine RW_fin ?_; intro w32 E33 hP34
  obtain ⟨⟨⟨⟨⟨⟨⟨⟨⟨⟨⟨⟨⟨⟨⟨⟨⟨⟨-, -⟩, -⟩, -⟩, -⟩, -⟩, -⟩, -⟩, -⟩, -⟩, -⟩, -⟩, -⟩, -⟩, -⟩, -⟩, -⟩, -⟩, q35⟩ := hP34
  have X36 := Ext.gr X12 E33
  have q35 : v31 = (Bo β4) := q35
  obtain rfl := q35
  show wpList _ _ _ _ (fr [(.agg #[(Fl r1), (Fl r3), (Iv A_m_.steps)]), (Pt b6 0), (Bo false), v14, v15, v16, v17, v18, v19, v20, v21, v22, v23, v24, v25, v26, v27, v28, v29, v30, (Bo β4)]) _
  refine q_is (l' := [(.agg #[(Fl r1), (Fl r3), (Iv A_m_.steps)]), (Pt b6 0), (Bo β4), v14, v15, v16, v17, v18, v19, v20, v21, v22, v23, v24, v25, v26, v27, v28, v29, v30, (Bo β4)]) rfl rfl (does_assign (u := (Bo β4)) (ev rfl)) rfl ?_
  refine wpList_nil (hK13 _ _ ?_)
  refine wp_ret ?_
  refine ret_val (v := (Bo β4)) (res_T rfl (slot rfl)) X36 ?_
  have x37 : (marchOk A_m_) = β4 := by first | with_reducible rfl | (simp only [marchOk, h2, h4, hβ1, hβ2, hβ3, hβ4]; done) | (simp [marchOk, h2, h4, hβ1, hβ2, hβ3, hβ4]; done) | rfl
  exact (by first | with_reducible rfl | rw [x37] | rfl)

/- impl.ValidView -/
theorem c_impl_ValidView (v_ : List Value) (A_v_ : ViewT) (w : World) (hv_v_ : RViewT w A_v_ v_) : Gives Try.prog 20 #[(.agg v_.toArray)] w (fun v w' => v = (Bo (isView A_v_))) := by
  obtain ⟨r3, r5, r7, r9, r11, r13, r15, r17, r19, r21, r23, r25, y1, rfl, h4, h6, h8, h10, h12, h14, h16, h18, h20, h22, h24, h26, h2⟩ := hv_v_
  have hs29 := h2; have hs29l := Sl.len h2; obtain ⟨p27, q28, rfl⟩ := Sl.shape h2
  refine enter [(.agg #[(.slice p27 A_v_.shape.nodes.length q28), (Fl r3), (Fl r5), (Fl r7), (Fl r9), (Fl r11), (Fl r13), (Fl r15), (Iv A_v_.cam.width), (Iv A_v_.cam.height), (Fl r17), (Fl r19), (Fl r21), (Fl r23), (Fl r25), (Iv A_v_.march.steps)]), Ud, Ud, Ud, Ud, Ud, Ud, Ud, Ud, Ud, Ud, Ud, Ud, Ud, Ud, Ud, Ud, Ud, Ud, Ud, Ud] Try.func20 rfl Try.ntmps20 rfl ?_
  refine wp_seq_k fun K30 hK30 => ?_
  refine wp_region_lit ?_
  refine seqd rfl rfl (does_box (u := (.agg #[(.slice p27 A_v_.shape.nodes.length q28), (Fl r3), (Fl r5), (Fl r7), (Fl r9), (Fl r11), (Fl r13), (Fl r15), (Iv A_v_.cam.width), (Iv A_v_.cam.height), (Fl r17), (Fl r19), (Fl r21), (Fl r23), (Fl r25), (Iv A_v_.march.steps)])) (ev rfl)) ?_; rintro _ w35 ⟨b31, rfl, hb32, hB33, E34⟩
  have g36 : w.heap.size ≤ b31 := Nat.le_trans (Below.size (Ext.refl w)) hb32
  change Blk _ _ [(.slice p27 A_v_.shape.nodes.length q28), (Fl r3), (Fl r5), (Fl r7), (Fl r9), (Fl r11), (Fl r13), (Fl r15), (Iv A_v_.cam.width), (Iv A_v_.cam.height), (Fl r17), (Fl r19), (Fl r21), (Fl r23), (Fl r25), (Iv A_v_.march.steps)] at hB33
  have X37 := Ext.gr (Ext.refl w) E34
  show wpList _ _ _ _ (fr [(.agg #[(.slice p27 A_v_.shape.nodes.length q28), (Fl r3), (Fl r5), (Fl r7), (Fl r9), (Fl r11), (Fl r13), (Fl r15), (Iv A_v_.cam.width), (Iv A_v_.cam.height), (Fl r17), (Fl r19), (Fl r21), (Fl r23), (Fl r25), (Iv A_v_.march.steps)]), (Pt b31 0), Ud, Ud, Ud, Ud, Ud, Ud, Ud, Ud, Ud, Ud, Ud, Ud, Ud, Ud, Ud, Ud, Ud, Ud, Ud]) _
  refine q_is (l' := [(.agg #[(.slice p27 A_v_.shape.nodes.length q28), (Fl r3), (Fl r5), (Fl r7), (Fl r9), (Fl r11), (Fl r13), (Fl r15), (Iv A_v_.cam.width), (Iv A_v_.cam.height), (Fl r17), (Fl r19), (Fl r21), (Fl r23), (Fl r25), (Iv A_v_.march.steps)]), (Pt b31 0), (Bo false), Ud, Ud, Ud, Ud, Ud, Ud, Ud, Ud, Ud, Ud, Ud, Ud, Ud, Ud, Ud, Ud, Ud, Ud]) rfl rfl (does_assign (u := (Bo false)) (ev rfl)) rfl ?_
  refine wpList_nil (hK30 _ _ ?_)
  refine wp_seq_k fun K38 hK38 => ?_
  obtain ⟨β1, hβ1⟩ : ∃ b : Bool, b = ((isShape A_v_.shape) && (isCam A_v_.cam)) := ⟨_, rfl⟩
  obtain ⟨β2, hβ2⟩ : ∃ b : Bool, b = (β1 && (marchOk A_v_.march)) := ⟨_, rfl⟩
  refine region_text (
    [Fact.pure [] (fun v => v = (Pt b31 0)),
    Fact.pure [3] (fun v => v = (.agg #[(.slice p27 A_v_.shape.nodes.length q28)])),
    Fact.pure [4] (fun v => v = (Bo (isShape A_v_.shape))),
    Fact.pure [5] (fun v => v = (Bo (isShape A_v_.shape))),
    Fact.pure [6] (fun v => (isShape A_v_.shape) = true → v = (Pt b31 1)),
    Fact.pure [7, 6] (fun v => (isShape A_v_.shape) = true → v = (.agg #[(Fl r3), (Fl r5), (Fl r7), (Fl r9), (Fl r11), (Fl r13), (Fl r15), (Iv A_v_.cam.width), (Iv A_v_.cam.height)])),
    Fact.pure [8, 6] (fun v => (isShape A_v_.shape) = true → v = (Bo (isCam A_v_.cam))),
    Fact.pure [6, 9] (fun v => v = (Bo β1)),
    Fact.pure [10] (fun v => v = (Bo β1)),
    Fact.pure [11] (fun v => β1 = true → v = (Pt b31 13)),
    Fact.pure [12, 11] (fun v => β1 = true → v = (.agg #[(Fl r23), (Fl r25), (Iv A_v_.march.steps)])),
    Fact.pure [13, 11] (fun v => β1 = true → v = (Bo (marchOk A_v_.march))),
    Fact.pure [11, 14] (fun v => v = (Bo β2)),
    Fact.pure [15] (fun v => v = (Bo β2)),
    Fact.pure [16] (fun v => β2 = true → v = (Pt b31 10)),
    Fact.pure [17, 16] (fun v => β2 = true → v = (.agg #[(Fl r17), (Fl r19), (Fl r21)])),
    Fact.pure [18, 16] (fun v => β2 = true → v = (Bo (finV A_v_.light))),
    Fact.pure [16, 19] (fun v => v = (Bo (β2 && (finV A_v_.light))))]) (by simp [Fact.pure, Fact.mem]) ?_
  refine RW_d (fun v39 => [(.agg #[(.slice p27 A_v_.shape.nodes.length q28), (Fl r3), (Fl r5), (Fl r7), (Fl r9), (Fl r11), (Fl r13), (Fl r15), (Iv A_v_.cam.width), (Iv A_v_.cam.height), (Fl r17), (Fl r19), (Fl r21), (Fl r23), (Fl r25), (Iv A_v_.march.steps)]), (Pt b31 0), (Bo false), v39, Ud, Ud, Ud, Ud, Ud, Ud, Ud, Ud, Ud, Ud, Ud, Ud, Ud, Ud, Ud, Ud, Ud]) rfl (fun _ => rfl) (fun u hu hF => ?_) (fun v39 => ?_)
  · clear hF
    refine doesG_un rfl ?_
    refine (does_fieldAddr (ev rfl) fa63_0).mono ?_; rintro _ _ ⟨rfl, rfl⟩
    exact ⟨rfl, Ext.refl _⟩
  refine RW_d (fun v40 => [(.agg #[(.slice p27 A_v_.shape.nodes.length q28), (Fl r3), (Fl r5), (Fl r7), (Fl r9), (Fl r11), (Fl r13), (Fl r15), (Iv A_v_.cam.width), (Iv A_v_.cam.height), (Fl r17), (Fl r19), (Fl r21), (Fl r23), (Fl r25), (Iv A_v_.march.steps)]), (Pt b31 0), (Bo false), v39, v40, Ud, Ud, Ud, Ud, Ud, Ud, Ud, Ud, Ud, Ud, Ud, Ud, Ud, Ud, Ud, Ud]) rfl (fun _ => rfl) (fun u hu hF => ?_) (fun v40 => ?_)
  · have h3_ : v39 = (Pt b31 0) := hF.1
    clear hF
    refine doesG_un rfl ?_
    obtain rfl := h3_
    refine (does_loadAgg (cs := [(.slice p27 A_v_.shape.nodes.length q28)]) (ev rfl) Try.isAgg30 Try.sizeOf30 (Cells.sub (Blk.cells (hB33.ext hu)) 0 1) rfl).mono ?_; rintro _ _ ⟨rfl, rfl⟩
    exact ⟨rfl, Ext.refl _⟩
  refine RW_d (fun v41 => [(.agg #[(.slice p27 A_v_.shape.nodes.length q28), (Fl r3), (Fl r5), (Fl r7), (Fl r9), (Fl r11), (Fl r13), (Fl r15), (Iv A_v_.cam.width), (Iv A_v_.cam.height), (Fl r17), (Fl r19), (Fl r21), (Fl r23), (Fl r25), (Iv A_v_.march.steps)]), (Pt b31 0), (Bo false), v39, v40, v41, Ud, Ud, Ud, Ud, Ud, Ud, Ud, Ud, Ud, Ud, Ud, Ud, Ud, Ud, Ud]) rfl (fun _ => rfl) (fun u hu hF => ?_) (fun v41 => ?_)
  · have h4_ : v40 = (.agg #[(.slice p27 A_v_.shape.nodes.length q28)]) := hF.1
    clear hF
    refine doesG_un rfl ?_
    obtain rfl := h4_
    refine (does_call (args := #[(.agg #[(.slice p27 A_v_.shape.nodes.length q28)])]) cal26 (evs rfl) (c_impl_ValidShape [(.slice p27 A_v_.shape.nodes.length q28)] A_v_.shape _ ⟨(.slice p27 A_v_.shape.nodes.length q28), rfl, (Sl.ext (Sl.ext hs29 RNodeT.mono X37) RNodeT.mono hu)⟩)).mono ?_; rintro v u' ⟨hx, hv⟩
    exact ⟨hv, hx⟩
  refine RW_d (fun v42 => [(.agg #[(.slice p27 A_v_.shape.nodes.length q28), (Fl r3), (Fl r5), (Fl r7), (Fl r9), (Fl r11), (Fl r13), (Fl r15), (Iv A_v_.cam.width), (Iv A_v_.cam.height), (Fl r17), (Fl r19), (Fl r21), (Fl r23), (Fl r25), (Iv A_v_.march.steps)]), (Pt b31 0), (Bo false), v39, v40, v41, v42, Ud, Ud, Ud, Ud, Ud, Ud, Ud, Ud, Ud, Ud, Ud, Ud, Ud, Ud]) rfl (fun _ => rfl) (fun u hu hF => ?_) (fun v42 => ?_)
  · have h5_ : v41 = (Bo (isShape A_v_.shape)) := hF.1
    clear hF
    refine doesG_un rfl ?_
    obtain rfl := h5_
    refine (does_move (u := (Bo (isShape A_v_.shape))) (ev rfl)).mono ?_; rintro _ _ ⟨rfl, rfl⟩
    exact ⟨rfl, Ext.refl _⟩
  refine RW_d (fun v43 => [(.agg #[(.slice p27 A_v_.shape.nodes.length q28), (Fl r3), (Fl r5), (Fl r7), (Fl r9), (Fl r11), (Fl r13), (Fl r15), (Iv A_v_.cam.width), (Iv A_v_.cam.height), (Fl r17), (Fl r19), (Fl r21), (Fl r23), (Fl r25), (Iv A_v_.march.steps)]), (Pt b31 0), (Bo false), v39, v40, v41, v42, v43, Ud, Ud, Ud, Ud, Ud, Ud, Ud, Ud, Ud, Ud, Ud, Ud, Ud]) rfl (fun _ => rfl) (fun u hu hF => ?_) (fun v43 => ?_)
  · have h6_ : v42 = (Bo (isShape A_v_.shape)) := hF.1
    clear hF
    obtain rfl := h6_
    refine doesG_g (b := (isShape A_v_.shape)) rfl (yld rfl rfl) (fun hg1 => ?_) (fun hc => ⟨fun hg1 => absurd hg1 hc, Ext.refl _⟩)
    refine (does_fieldAddr (ev rfl) fa63_1).mono ?_; rintro _ _ ⟨rfl, rfl⟩
    exact ⟨fun _ => rfl, Ext.refl _⟩
  refine RW_d (fun v44 => [(.agg #[(.slice p27 A_v_.shape.nodes.length q28), (Fl r3), (Fl r5), (Fl r7), (Fl r9), (Fl r11), (Fl r13), (Fl r15), (Iv A_v_.cam.width), (Iv A_v_.cam.height), (Fl r17), (Fl r19), (Fl r21), (Fl r23), (Fl r25), (Iv A_v_.march.steps)]), (Pt b31 0), (Bo false), v39, v40, v41, v42, v43, v44, Ud, Ud, Ud, Ud, Ud, Ud, Ud, Ud, Ud, Ud, Ud, Ud]) rfl (fun _ => rfl) (fun u hu hF => ?_) (fun v44 => ?_)
  · have h7_ : (isShape A_v_.shape) = true → v43 = (Pt b31 1) := hF.1
    have h6_ : v42 = (Bo (isShape A_v_.shape)) := hF.2.1
    clear hF
    obtain rfl := h6_
    refine doesG_g (b := (isShape A_v_.shape)) rfl (yld rfl rfl) (fun hg1 => ?_) (fun hc => ⟨fun hg1 => absurd hg1 hc, Ext.refl _⟩)
    obtain rfl := h7_ hg1
    refine (does_loadAgg (cs := [(Fl r3), (Fl r5), (Fl r7), (Fl r9), (Fl r11), (Fl r13), (Fl r15), (Iv A_v_.cam.width), (Iv A_v_.cam.height)]) (ev rfl) Try.isAgg60 Try.sizeOf60 (Cells.sub (Blk.cells (hB33.ext hu)) 1 9) rfl).mono ?_; rintro _ _ ⟨rfl, rfl⟩
    exact ⟨fun _ => rfl, Ext.refl _⟩
  refine RW_d (fun v45 => [(.agg #[(.slice p27 A_v_.shape.nodes.length q28), (Fl r3), (Fl r5), (Fl r7), (Fl r9), (Fl r11), (Fl r13), (Fl r15), (Iv A_v_.cam.width), (Iv A_v_.cam.height), (Fl r17), (Fl r19), (Fl r21), (Fl r23), (Fl r25), (Iv A_v_.march.steps)]), (Pt b31 0), (Bo false), v39, v40, v41, v42, v43, v44, v45, Ud, Ud, Ud, Ud, Ud, Ud, Ud, Ud, Ud, Ud, Ud]) rfl (fun _ => rfl) (fun u hu hF => ?_) (fun v45 => ?_)
  · have h8_ : (isShape A_v_.shape) = true → v44 = (.agg #[(Fl r3), (Fl r5), (Fl r7), (Fl r9), (Fl r11), (Fl r13), (Fl r15), (Iv A_v_.cam.width), (Iv A_v_.cam.height)]) := hF.1
    have h6_ : v42 = (Bo (isShape A_v_.shape)) := hF.2.1
    clear hF
    obtain rfl := h6_
    refine doesG_g (b := (isShape A_v_.shape)) rfl (yld rfl rfl) (fun hg1 => ?_) (fun hc => ⟨fun hg1 => absurd hg1 hc, Ext.refl _⟩)
    obtain rfl := h8_ hg1
    refine (does_call (args := #[(.agg #[(Fl r3), (Fl r5), (Fl r7), (Fl r9), (Fl r11), (Fl r13), (Fl r15), (Iv A_v_.cam.width), (Iv A_v_.cam.height)])]) cal43 (evs rfl) (c_impl_ValidCamera [(Fl r3), (Fl r5), (Fl r7), (Fl r9), (Fl r11), (Fl r13), (Fl r15), (Iv A_v_.cam.width), (Iv A_v_.cam.height)] A_v_.cam _ ⟨r3, r5, r7, r9, r11, r13, r15, rfl, h4, h6, h8, h10, h12, h14, h16⟩)).mono ?_; rintro v u' ⟨hx, hv⟩
    exact ⟨fun _ => hv, hx⟩
  refine RW_d (fun v46 => [(.agg #[(.slice p27 A_v_.shape.nodes.length q28), (Fl r3), (Fl r5), (Fl r7), (Fl r9), (Fl r11), (Fl r13), (Fl r15), (Iv A_v_.cam.width), (Iv A_v_.cam.height), (Fl r17), (Fl r19), (Fl r21), (Fl r23), (Fl r25), (Iv A_v_.march.steps)]), (Pt b31 0), (Bo false), v39, v40, v41, v42, v43, v44, v45, v46, Ud, Ud, Ud, Ud, Ud, Ud, Ud, Ud, Ud, Ud]) rfl (fun _ => rfl) (fun u hu hF => ?_) (fun v46 => ?_)
  · have h6_ : v42 = (Bo (isShape A_v_.shape)) := hF.1
    have h9_ : (isShape A_v_.shape) = true → v45 = (Bo (isCam A_v_.cam)) := hF.2.1
    clear hF
    refine doesG_un rfl ?_
    skip
    obtain rfl := h6_
    refine (does_pick (b := (isShape A_v_.shape)) (u := v45) (v := (Bo false)) (ev rfl) (ev rfl) (ev rfl)).mono ?_; rintro _ _ ⟨rfl, rfl⟩; refine ⟨?_, Ext.refl _⟩; rw [hβ1]; skip
    cases hbb : (isShape A_v_.shape)
    all_goals first | (show _ = _; simp only [↓reduceIte, Bool.true_and, Bool.false_and, Bool.true_or, Bool.false_or, Bool.false_eq_true]; done) | (have e_ := h9_ hbb; subst e_; show _ = _; simp only [↓reduceIte, Bool.true_and, Bool.false_and, Bool.true_or, Bool.false_or, Bool.false_eq_true]; done) | rfl | (have e_ := h9_ hbb; subst e_; rfl) | (simp [hbb] at h9_ ⊢; first | done | rfl | (subst h9_; rfl) | simp_all) | (simp [hbb] at h9_ ⊢; done)
  refine RW_d (fun v47 => [(.agg #[(.slice p27 A_v_.shape.nodes.length q28), (Fl r3), (Fl r5), (Fl r7), (Fl r9), (Fl r11), (Fl r13), (Fl r15), (Iv A_v_.cam.width), (Iv A_v_.cam.height), (Fl r17), (Fl r19), (Fl r21), (Fl r23), (Fl r25), (Iv A_v_.march.steps)]), (Pt b31 0), (Bo false), v39, v40, v41, v42, v43, v44, v45, v46, v47, Ud, Ud, Ud, Ud, Ud, Ud, Ud, Ud, Ud]) rfl (fun _ => rfl) (fun u hu hF => ?_) (fun v47 => ?_)
  · have h10_ : v46 = (Bo β1) := hF.1
    clear hF
    refine doesG_un rfl ?_
    obtain rfl := h10_
    refine (does_move (u := (Bo β1)) (ev rfl)).mono ?_; rintro _ _ ⟨rfl, rfl⟩
    exact ⟨rfl, Ext.refl _⟩
  refine RW_d (fun v48 => [(.agg #[(.slice p27 A_v_.shape.nodes.length q28), (Fl r3), (Fl r5), (Fl r7), (Fl r9), (Fl r11), (Fl r13), (Fl r15), (Iv A_v_.cam.width), (Iv A_v_.cam.height), (Fl r17), (Fl r19), (Fl r21), (Fl r23), (Fl r25), (Iv A_v_.march.steps)]), (Pt b31 0), (Bo false), v39, v40, v41, v42, v43, v44, v45, v46, v47, v48, Ud, Ud, Ud, Ud, Ud, Ud, Ud, Ud]) rfl (fun _ => rfl) (fun u hu hF => ?_) (fun v48 => ?_)
  · have h11_ : v47 = (Bo β1) := hF.1
    clear hF
    obtain rfl := h11_
    refine doesG_g (b := β1) rfl (yld rfl rfl) (fun hg1 => ?_) (fun hc => ⟨fun hg1 => absurd hg1 hc, Ext.refl _⟩)
    refine (does_fieldAddr (ev rfl) fa63_3).mono ?_; rintro _ _ ⟨rfl, rfl⟩
    exact ⟨fun _ => rfl, Ext.refl _⟩
  refine RW_d (fun v49 => [(.agg #[(.slice p27 A_v_.shape.nodes.length q28), (Fl r3), (Fl r5), (Fl r7), (Fl r9), (Fl r11), (Fl r13), (Fl r15), (Iv A_v_.cam.width), (Iv A_v_.cam.height), (Fl r17), (Fl r19), (Fl r21), (Fl r23), (Fl r25), (Iv A_v_.march.steps)]), (Pt b31 0), (Bo false), v39, v40, v41, v42, v43, v44, v45, v46, v47, v48, v49, Ud, Ud, Ud, Ud, Ud, Ud, Ud]) rfl (fun _ => rfl) (fun u hu hF => ?_) (fun v49 => ?_)
  · have h12_ : β1 = true → v48 = (Pt b31 13) := hF.1
    have h11_ : v47 = (Bo β1) := hF.2.1
    clear hF
    obtain rfl := h11_
    refine doesG_g (b := β1) rfl (yld rfl rfl) (fun hg1 => ?_) (fun hc => ⟨fun hg1 => absurd hg1 hc, Ext.refl _⟩)
    obtain rfl := h12_ hg1
    refine (does_loadAgg (cs := [(Fl r23), (Fl r25), (Iv A_v_.march.steps)]) (ev rfl) Try.isAgg61 Try.sizeOf61 (Cells.sub (Blk.cells (hB33.ext hu)) 13 3) rfl).mono ?_; rintro _ _ ⟨rfl, rfl⟩
    exact ⟨fun _ => rfl, Ext.refl _⟩
  refine RW_d (fun v50 => [(.agg #[(.slice p27 A_v_.shape.nodes.length q28), (Fl r3), (Fl r5), (Fl r7), (Fl r9), (Fl r11), (Fl r13), (Fl r15), (Iv A_v_.cam.width), (Iv A_v_.cam.height), (Fl r17), (Fl r19), (Fl r21), (Fl r23), (Fl r25), (Iv A_v_.march.steps)]), (Pt b31 0), (Bo false), v39, v40, v41, v42, v43, v44, v45, v46, v47, v48, v49, v50, Ud, Ud, Ud, Ud, Ud, Ud]) rfl (fun _ => rfl) (fun u hu hF => ?_) (fun v50 => ?_)
  · have h13_ : β1 = true → v49 = (.agg #[(Fl r23), (Fl r25), (Iv A_v_.march.steps)]) := hF.1
    have h11_ : v47 = (Bo β1) := hF.2.1
    clear hF
    obtain rfl := h11_
    refine doesG_g (b := β1) rfl (yld rfl rfl) (fun hg1 => ?_) (fun hc => ⟨fun hg1 => absurd hg1 hc, Ext.refl _⟩)
    obtain rfl := h13_ hg1
    refine (does_call (args := #[(.agg #[(Fl r23), (Fl r25), (Iv A_v_.march.steps)])]) cal44 (evs rfl) (c_impl_ValidMarch [(Fl r23), (Fl r25), (Iv A_v_.march.steps)] A_v_.march _ ⟨r23, r25, rfl, h24, h26⟩)).mono ?_; rintro v u' ⟨hx, hv⟩
    exact ⟨fun _ => hv, hx⟩
  refine RW_d (fun v51 => [(.agg #[(.slice p27 A_v_.shape.nodes.length q28), (Fl r3), (Fl r5), (Fl r7), (Fl r9), (Fl r11), (Fl r13), (Fl r15), (Iv A_v_.cam.width), (Iv A_v_.cam.height), (Fl r17), (Fl r19), (Fl r21), (Fl r23), (Fl r25), (Iv A_v_.march.steps)]), (Pt b31 0), (Bo false), v39, v40, v41, v42, v43, v44, v45, v46, v47, v48, v49, v50, v51, Ud, Ud, Ud, Ud, Ud]) rfl (fun _ => rfl) (fun u hu hF => ?_) (fun v51 => ?_)
  · have h11_ : v47 = (Bo β1) := hF.1
    have h14_ : β1 = true → v50 = (Bo (marchOk A_v_.march)) := hF.2.1
    clear hF
    refine doesG_un rfl ?_
    skip
    obtain rfl := h11_
    refine (does_pick (b := β1) (u := v50) (v := (Bo false)) (ev rfl) (ev rfl) (ev rfl)).mono ?_; rintro _ _ ⟨rfl, rfl⟩; refine ⟨?_, Ext.refl _⟩; rw [hβ2]; skip
    cases hbb : β1
    all_goals first | (show _ = _; simp only [↓reduceIte, Bool.true_and, Bool.false_and, Bool.true_or, Bool.false_or, Bool.false_eq_true]; done) | (have e_ := h14_ hbb; subst e_; show _ = _; simp only [↓reduceIte, Bool.true_and, Bool.false_and, Bool.true_or, Bool.false_or, Bool.false_eq_true]; done) | rfl | (have e_ := h14_ hbb; subst e_; rfl) | (simp [hbb] at h14_ ⊢; first | done | rfl | (subst h14_; rfl) | simp_all) | (simp [hbb] at h14_ ⊢; done)
  refine RW_d (fun v52 => [(.agg #[(.slice p27 A_v_.shape.nodes.length q28), (Fl r3), (Fl r5), (Fl r7), (Fl r9), (Fl r11), (Fl r13), (Fl r15), (Iv A_v_.cam.width), (Iv A_v_.cam.height), (Fl r17), (Fl r19), (Fl r21), (Fl r23), (Fl r25), (Iv A_v_.march.steps)]), (Pt b31 0), (Bo false), v39, v40, v41, v42, v43, v44, v45, v46, v47, v48, v49, v50, v51, v52, Ud, Ud, Ud, Ud]) rfl (fun _ => rfl) (fun u hu hF => ?_) (fun v52 => ?_)
  · have h15_ : v51 = (Bo β2) := hF.1
    clear hF
    refine doesG_un rfl ?_
    obtain rfl := h15_
    refine (does_move (u := (Bo β2)) (ev rfl)).mono ?_; rintro _ _ ⟨rfl, rfl⟩
    exact ⟨rfl, Ext.refl _⟩
  refine RW_d (fun v53 => [(.agg #[(.slice p27 A_v_.shape.nodes.length q28), (Fl r3), (Fl r5), (Fl r7), (Fl r9), (Fl r11), (Fl r13), (Fl r15), (Iv A_v_.cam.width), (Iv A_v_.cam.height), (Fl r17), (Fl r19), (Fl r21), (Fl r23), (Fl r25), (Iv A_v_.march.steps)]), (Pt b31 0), (Bo false), v39, v40, v41, v42, v43, v44, v45, v46, v47, v48, v49, v50, v51, v52, v53, Ud, Ud, Ud]) rfl (fun _ => rfl) (fun u hu hF => ?_) (fun v53 => ?_)
  · have h16_ : v52 = (Bo β2) := hF.1
    clear hF
    obtain rfl := h16_
    refine doesG_g (b := β2) rfl (yld rfl rfl) (fun hg1 => ?_) (fun hc => ⟨fun hg1 => absurd hg1 hc, Ext.refl _⟩)
    refine (does_fieldAddr (ev rfl) fa63_2).mono ?_; rintro _ _ ⟨rfl, rfl⟩
    exact ⟨fun _ => rfl, Ext.refl _⟩
  refine RW_d (fun v54 => [(.agg #[(.slice p27 A_v_.shape.nodes.length q28), (Fl r3), (Fl r5), (Fl r7), (Fl r9), (Fl r11), (Fl r13), (Fl r15), (Iv A_v_.cam.width), (Iv A_v_.cam.height), (Fl r17), (Fl r19), (Fl r21), (Fl r23), (Fl r25), (Iv A_v_.march.steps)]), (Pt b31 0), (Bo false), v39, v40, v41, v42, v43, v44, v45, v46, v47, v48, v49, v50, v51, v52, v53, v54, Ud, Ud]) rfl (fun _ => rfl) (fun u hu hF => ?_) (fun v54 => ?_)
  · have h17_ : β2 = true → v53 = (Pt b31 10) := hF.1
    have h16_ : v52 = (Bo β2) := hF.2.1
    clear hF
    obtain rfl := h16_
    refine doesG_g (b := β2) rfl (yld rfl rfl) (fun hg1 => ?_) (fun hc => ⟨fun hg1 => absurd hg1 hc, Ext.refl _⟩)
    obtain rfl := h17_ hg1
    refine (does_loadAgg (cs := [(Fl r17), (Fl r19), (Fl r21)]) (ev rfl) Try.isAgg40 Try.sizeOf40 (Cells.sub (Blk.cells (hB33.ext hu)) 10 3) rfl).mono ?_; rintro _ _ ⟨rfl, rfl⟩
    exact ⟨fun _ => rfl, Ext.refl _⟩
  refine RW_d (fun v55 => [(.agg #[(.slice p27 A_v_.shape.nodes.length q28), (Fl r3), (Fl r5), (Fl r7), (Fl r9), (Fl r11), (Fl r13), (Fl r15), (Iv A_v_.cam.width), (Iv A_v_.cam.height), (Fl r17), (Fl r19), (Fl r21), (Fl r23), (Fl r25), (Iv A_v_.march.steps)]), (Pt b31 0), (Bo false), v39, v40, v41, v42, v43, v44, v45, v46, v47, v48, v49, v50, v51, v52, v53, v54, v55, Ud]) rfl (fun _ => rfl) (fun u hu hF => ?_) (fun v55 => ?_)
  · have h18_ : β2 = true → v54 = (.agg #[(Fl r17), (Fl r19), (Fl r21)]) := hF.1
    have h16_ : v52 = (Bo β2) := hF.2.1
    clear hF
    obtain rfl := h16_
    refine doesG_g (b := β2) rfl (yld rfl rfl) (fun hg1 => ?_) (fun hc => ⟨fun hg1 => absurd hg1 hc, Ext.refl _⟩)
    obtain rfl := h18_ hg1
    refine (does_call (args := #[(.agg #[(Fl r17), (Fl r19), (Fl r21)])]) cal45 (evs rfl) (c_impl_finiteVector [(Fl r17), (Fl r19), (Fl r21)] A_v_.light _ ⟨r17, r19, r21, rfl, h18, h20, h22⟩)).mono ?_; rintro v u' ⟨hx, hv⟩
    exact ⟨fun _ => hv, hx⟩
  refine RW_d (fun v56 => [(.agg #[(.slice p27 A_v_.shape.nodes.length q28), (Fl r3), (Fl r5), (Fl r7), (Fl r9), (Fl r11), (Fl r13), (Fl r15), (Iv A_v_.cam.width), (Iv A_v_.cam.height), (Fl r17), (Fl r19), (Fl r21), (Fl r23), (Fl r25), (Iv A_v_.march.steps)]), (Pt b31 0), (Bo false), v39, v40, v41, v42, v43, v44, v45, v46, v47, v48, v49, v50, v51, v52, v53, v54, v55, v56]) rfl (fun _ => rfl) (fun u hu hF => ?_) (fun v56 => ?_)
  · have h16_ : v52 = (Bo β2) := hF.1
    have h19_ : β2 = true → v55 = (Bo (finV A_v_.light)) := hF.2.1
    clear hF
    refine doesG_un rfl ?_
    skip
    obtain rfl := h16_
    refine (does_pick (b := β2) (u := v55) (v := (Bo false)) (ev rfl) (ev rfl) (ev rfl)).mono ?_; rintro _ _ ⟨rfl, rfl⟩; refine ⟨?_, Ext.refl _⟩; skip
    cases hbb : β2
    all_goals first | (show _ = _; simp only [↓reduceIte, Bool.true_and, Bool.false_and, Bool.true_or, Bool.false_or, Bool.false_eq_true]; done) | (have e_ := h19_ hbb; subst e_; show _ = _; simp only [↓reduceIte, Bool.true_and, Bool.false_and, Bool.true_or, Bool.false_or, Bool.false_eq_true]; done) | rfl | (have e_ := h19_ hbb; subst e_; rfl) | (simp [hbb] at h19_ ⊢; first | done | rfl | (subst h19_; rfl) | simp_all) | (simp [hbb] at h19_ ⊢; done)
  refine RW_fin ?_; intro w57 E58 hP59
  obtain ⟨⟨⟨⟨⟨⟨⟨⟨⟨⟨⟨⟨⟨⟨⟨⟨⟨⟨-, -⟩, -⟩, -⟩, -⟩, -⟩, -⟩, -⟩, -⟩, -⟩, -⟩, -⟩, -⟩, -⟩, -⟩, -⟩, -⟩, -⟩, q60⟩ := hP59
  have X61 := Ext.gr X37 E58
  have q60 : v56 = (Bo (β2 && (finV A_v_.light))) := q60
  obtain rfl := q60
  show wpList _ _ _ _ (fr [(.agg #[(.slice p27 A_v_.shape.nodes.length q28), (Fl r3), (Fl r5), (Fl r7), (Fl r9), (Fl r11), (Fl r13), (Fl r15), (Iv A_v_.cam.width), (Iv A_v_.cam.height), (Fl r17), (Fl r19), (Fl r21), (Fl r23), (Fl r25), (Iv A_v_.march.steps)]), (Pt b31 0), (Bo false), v39, v40, v41, v42, v43, v44, v45, v46, v47, v48, v49, v50, v51, v52, v53, v54, v55, (Bo (β2 && (finV A_v_.light)))]) _
  refine q_is (l' := [(.agg #[(.slice p27 A_v_.shape.nodes.length q28), (Fl r3), (Fl r5), (Fl r7), (Fl r9), (Fl r11), (Fl r13), (Fl r15), (Iv A_v_.cam.width), (Iv A_v_.cam.height), (Fl r17), (Fl r19), (Fl r21), (Fl r23), (Fl r25), (Iv A_v_.march.steps)]), (Pt b31 0), (Bo (β2 && (finV A_v_.light))), v39, v40, v41, v42, v43, v44, v45, v46, v47, v48, v49, v50, v51, v52, v53, v54, v55, (Bo (β2 && (finV A_v_.light)))]) rfl rfl (does_assign (u := (Bo (β2 && (finV A_v_.light)))) (ev rfl)) rfl ?_
  refine wpList_nil (hK38 _ _ ?_)
  refine wp_ret ?_
  refine ret_val (v := (Bo (β2 && (finV A_v_.light)))) (res_T rfl (slot rfl)) X61 ?_
  have x62 : (isView A_v_) = (β2 && (finV A_v_.light)) := by unfold isView; first | rfl | (simp only [h4, h6, h8, h10, h12, h14, h16, h18, h20, h22, h24, h26, hβ1, hβ2]; ac_rfl)
  exact (by first | with_reducible rfl | rw [x62] | rfl)

/- laws.sameFloat -/
theorem c_laws_sameFloat (x : Nat) (y : Nat) (w : World) : Gives Try.prog 37 #[(Fd x), (Fd y)] w (fun v w' => v = (Bo (sameF (cf .f64 x) (cf .f64 y)))) := by
  refine enter [(Fd x), (Fd y), Ud, Ud, Ud, Ud, Ud, Ud, Ud, Ud, Ud, Ud, Ud, Ud, Ud, Ud, Ud, Ud, Ud, Ud, Ud, Ud, Ud, Ud, Ud, Ud, Ud, Ud, Ud, Ud, Ud, Ud, Ud, Ud, Ud, Ud, Ud] Try.func37 rfl Try.ntmps37 rfl ?_
  refine wp_seq_k fun K1 hK1 => ?_
  refine wp_region_lit ?_
  refine q_is rfl rfl (does_assign (u := (Bo false)) (ev rfl)) (by dsimp only [List.set]; try rfl) ?_
  refine wpList_nil (hK1 _ _ ?_)
  refine wp_seq_k fun K2 hK2 => ?_
  refine wp_seq_k fun K3 hK3 => ?_
  obtain ⟨β1, hβ1⟩ : ∃ b : Bool, b = (fcmp .neq (ford .f64 (cf .f64 x) (cf .f64 x))) := ⟨_, rfl⟩
  obtain ⟨β2, hβ2⟩ : ∃ b : Bool, b = (fcmp .neq (ford .f64 (cf .f64 y) (cf .f64 y))) := ⟨_, rfl⟩
  refine region_text (
    [Fact.pure [] (fun v => v = (Fd x)),
    Fact.pure [] (fun v => v = (Fd x)),
    Fact.pure [5, 6] (fun v => v = (Bo β1)),
    Fact.pure [7] (fun v => v = (Bo β1)),
    Fact.pure [8] (fun v => β1 = false → v = (Fd y)),
    Fact.pure [8] (fun v => β1 = false → v = (Fd y)),
    Fact.pure [9, 10, 8] (fun v => β1 = false → v = (Bo β2)),
    Fact.pure [8, 11] (fun v => v = (Bo (β1 || β2)))]) (by simp [Fact.pure, Fact.mem]) ?_
  refine RW_d _ rfl (fun v => by dsimp only [List.set]; try rfl) (fun u hu hF => ?_) (fun v4 => ?_)
  · clear hF
    refine doesG_un rfl ?_
    refine (does_move (u := (Fd x)) (ev rfl)).mono ?_; rintro _ _ ⟨rfl, rfl⟩
    exact ⟨rfl, Ext.refl _⟩
  refine RW_d _ rfl (fun v => by dsimp only [List.set]; try rfl) (fun u hu hF => ?_) (fun v5 => ?_)
  · clear hF
    refine doesG_un rfl ?_
    refine (does_move (u := (Fd x)) (ev rfl)).mono ?_; rintro _ _ ⟨rfl, rfl⟩
    exact ⟨rfl, Ext.refl _⟩
  refine RW_d _ rfl (fun v => by dsimp only [List.set]; try rfl) (fun u hu hF => ?_) (fun v6 => ?_)
  · have h5_ : v4 = (Fd x) := hF.1
    have h6_ : v5 = (Fd x) := hF.2.1
    clear hF
    refine doesG_un rfl ?_
    obtain rfl := h5_
    obtain rfl := h6_
    refine (does_fcmp (.inr (.inl rfl)) (ev rfl) (ev rfl)).mono ?_; rintro _ _ ⟨rfl, rfl⟩
    exact ⟨(by first | rfl | (show _ = _; simp only [hβ1]; done) | (show _ = _; simp only [hβ1]; rfl)), Ext.refl _⟩
  refine RW_d _ rfl (fun v => by dsimp only [List.set]; try rfl) (fun u hu hF => ?_) (fun v7 => ?_)
  · have h7_ : v6 = (Bo β1) := hF.1
    clear hF
    refine doesG_un rfl ?_
    obtain rfl := h7_
    refine (does_move (u := (Bo β1)) (ev rfl)).mono ?_; rintro _ _ ⟨rfl, rfl⟩
    exact ⟨rfl, Ext.refl _⟩
  refine RW_d _ rfl (fun v => by dsimp only [List.set]; try rfl) (fun u hu hF => ?_) (fun v8 => ?_)
  · have h8_ : v7 = (Bo β1) := hF.1
    clear hF
    obtain rfl := h8_
    refine doesG_g (b := β1) rfl (yld rfl rfl) (fun hg1 => ?_) (fun hc => ⟨fun hg1 => absurd hg1 hc, Ext.refl _⟩)
    refine (does_move (u := (Fd y)) (ev rfl)).mono ?_; rintro _ _ ⟨rfl, rfl⟩
    exact ⟨fun _ => rfl, Ext.refl _⟩
  refine RW_d _ rfl (fun v => by dsimp only [List.set]; try rfl) (fun u hu hF => ?_) (fun v9 => ?_)
  · have h8_ : v7 = (Bo β1) := hF.1
    clear hF
    obtain rfl := h8_
    refine doesG_g (b := β1) rfl (yld rfl rfl) (fun hg1 => ?_) (fun hc => ⟨fun hg1 => absurd hg1 hc, Ext.refl _⟩)
    refine (does_move (u := (Fd y)) (ev rfl)).mono ?_; rintro _ _ ⟨rfl, rfl⟩
    exact ⟨fun _ => rfl, Ext.refl _⟩
  refine RW_d _ rfl (fun v => by dsimp only [List.set]; try rfl) (fun u hu hF => ?_) (fun v10 => ?_)
  · have h9_ : β1 = false → v8 = (Fd y) := hF.1
    have h10_ : β1 = false → v9 = (Fd y) := hF.2.1
    have h8_ : v7 = (Bo β1) := hF.2.2.1
    clear hF
    obtain rfl := h8_
    refine doesG_g (b := β1) rfl (yld rfl rfl) (fun hg1 => ?_) (fun hc => ⟨fun hg1 => absurd hg1 hc, Ext.refl _⟩)
    obtain rfl := h9_ hg1
    obtain rfl := h10_ hg1
    refine (does_fcmp (.inr (.inl rfl)) (ev rfl) (ev rfl)).mono ?_; rintro _ _ ⟨rfl, rfl⟩
    exact ⟨fun _ => (by first | rfl | (show _ = _; simp only [hβ2]; done) | (show _ = _; simp only [hβ2]; rfl)), Ext.refl _⟩
  refine RW_d _ rfl (fun v => by dsimp only [List.set]; try rfl) (fun u hu hF => ?_) (fun v11 => ?_)
  · have h8_ : v7 = (Bo β1) := hF.1
    have h11_ : β1 = false → v10 = (Bo β2) := hF.2.1
    clear hF
    refine doesG_un rfl ?_
    skip
    obtain rfl := h8_
    refine (does_pick (b := β1) (u := (Bo true)) (v := v10) (ev rfl) (ev rfl) (ev rfl)).mono ?_; rintro _ _ ⟨rfl, rfl⟩; refine ⟨?_, Ext.refl _⟩; skip
    cases hbb : β1
    all_goals first | (show _ = _; simp only [↓reduceIte, Bool.true_and, Bool.false_and, Bool.true_or, Bool.false_or, Bool.false_eq_true]; done) | (have e_ := h11_ hbb; subst e_; show _ = _; simp only [↓reduceIte, Bool.true_and, Bool.false_and, Bool.true_or, Bool.false_or, Bool.false_eq_true]; done) | rfl | (have e_ := h11_ hbb; subst e_; rfl) | (simp [hbb] at h11_ ⊢; first | done | rfl | (subst h11_; rfl) | simp_all) | (simp [hbb] at h11_ ⊢; done)
  refine RW_fin ?_; intro w12 E13 hP14
  obtain ⟨⟨⟨⟨⟨⟨⟨⟨-, -⟩, -⟩, -⟩, -⟩, -⟩, -⟩, -⟩, q15⟩ := hP14
  have X16 := Ext.gr (Ext.refl w) E13
  have q15 : v11 = (Bo (β1 || β2)) := q15
  obtain rfl := q15
  show wpList _ _ _ _ (fr [_, _, _, _, _, _, _, _, _, _, _, _, _, _, _, _, _, _, _, _, _, _, _, _, _, _, _, _, _, _, _, _, _, _, _, _, _]) _
  refine wpList_nil (hK3 _ _ ?_)
  refine wp_cond_split (t := β1 || β2) (ev rfl) (fun c17 => ?_) (fun c17 => ?_)
  · have c17' := c17
    (try simp only [hβ1, hβ2] at c17')
    (try simp only [icmp, Bool.and_eq_true, Bool.or_eq_true, Bool.and_eq_false_iff, Bool.or_eq_false_iff, Bool.not_eq_true', Bool.not_eq_false', decide_eq_true_eq, decide_eq_false_iff_not, beq_iff_eq, bne_iff_ne, beq_eq_false_iff_ne, bne_eq_false_iff_eq] at c17')
    refine wp_seq_k fun K18 hK18 => ?_
    obtain ⟨β3, hβ3⟩ : ∃ b : Bool, b = (fcmp .neq (ford .f64 (cf .f64 x) (cf .f64 x))) := ⟨_, rfl⟩
    obtain ⟨β4, hβ4⟩ : ∃ b : Bool, b = (fcmp .neq (ford .f64 (cf .f64 y) (cf .f64 y))) := ⟨_, rfl⟩
    refine region_text (
      [Fact.pure [] (fun v => v = (Fd x)),
    Fact.pure [] (fun v => v = (Fd x)),
    Fact.pure [13, 14] (fun v => v = (Bo β3)),
    Fact.pure [15] (fun v => v = (Bo β3)),
    Fact.pure [16] (fun v => β3 = true → v = (Fd y)),
    Fact.pure [16] (fun v => β3 = true → v = (Fd y)),
    Fact.pure [17, 18, 16] (fun v => β3 = true → v = (Bo β4)),
    Fact.pure [16, 19] (fun v => v = (Bo (β3 && β4)))]) (by simp [Fact.pure, Fact.mem]) ?_
    refine RW_d _ rfl (fun v => by dsimp only [List.set]; try rfl) (fun u hu hF => ?_) (fun v19 => ?_)
    · clear hF
      refine doesG_un rfl ?_
      refine (does_move (u := (Fd x)) (ev rfl)).mono ?_; rintro _ _ ⟨rfl, rfl⟩
      exact ⟨rfl, Ext.refl _⟩
    refine RW_d _ rfl (fun v => by dsimp only [List.set]; try rfl) (fun u hu hF => ?_) (fun v20 => ?_)
    · clear hF
      refine doesG_un rfl ?_
      refine (does_move (u := (Fd x)) (ev rfl)).mono ?_; rintro _ _ ⟨rfl, rfl⟩
      exact ⟨rfl, Ext.refl _⟩
    refine RW_d _ rfl (fun v => by dsimp only [List.set]; try rfl) (fun u hu hF => ?_) (fun v21 => ?_)
    · have h13_ : v19 = (Fd x) := hF.1
      have h14_ : v20 = (Fd x) := hF.2.1
      clear hF
      refine doesG_un rfl ?_
      obtain rfl := h13_
      obtain rfl := h14_
      refine (does_fcmp (.inr (.inl rfl)) (ev rfl) (ev rfl)).mono ?_; rintro _ _ ⟨rfl, rfl⟩
      exact ⟨(by first | rfl | (show _ = _; simp only [hβ3]; done) | (show _ = _; simp only [hβ3]; rfl)), Ext.refl _⟩
    refine RW_d _ rfl (fun v => by dsimp only [List.set]; try rfl) (fun u hu hF => ?_) (fun v22 => ?_)
    · have h15_ : v21 = (Bo β3) := hF.1
      clear hF
      refine doesG_un rfl ?_
      obtain rfl := h15_
      refine (does_move (u := (Bo β3)) (ev rfl)).mono ?_; rintro _ _ ⟨rfl, rfl⟩
      exact ⟨rfl, Ext.refl _⟩
    refine RW_d _ rfl (fun v => by dsimp only [List.set]; try rfl) (fun u hu hF => ?_) (fun v23 => ?_)
    · have h16_ : v22 = (Bo β3) := hF.1
      clear hF
      obtain rfl := h16_
      refine doesG_g (b := β3) rfl (yld rfl rfl) (fun hg1 => ?_) (fun hc => ⟨fun hg1 => absurd hg1 hc, Ext.refl _⟩)
      refine (does_move (u := (Fd y)) (ev rfl)).mono ?_; rintro _ _ ⟨rfl, rfl⟩
      exact ⟨fun _ => rfl, Ext.refl _⟩
    refine RW_d _ rfl (fun v => by dsimp only [List.set]; try rfl) (fun u hu hF => ?_) (fun v24 => ?_)
    · have h16_ : v22 = (Bo β3) := hF.1
      clear hF
      obtain rfl := h16_
      refine doesG_g (b := β3) rfl (yld rfl rfl) (fun hg1 => ?_) (fun hc => ⟨fun hg1 => absurd hg1 hc, Ext.refl _⟩)
      refine (does_move (u := (Fd y)) (ev rfl)).mono ?_; rintro _ _ ⟨rfl, rfl⟩
      exact ⟨fun _ => rfl, Ext.refl _⟩
    refine RW_d _ rfl (fun v => by dsimp only [List.set]; try rfl) (fun u hu hF => ?_) (fun v25 => ?_)
    · have h17_ : β3 = true → v23 = (Fd y) := hF.1
      have h18_ : β3 = true → v24 = (Fd y) := hF.2.1
      have h16_ : v22 = (Bo β3) := hF.2.2.1
      clear hF
      obtain rfl := h16_
      refine doesG_g (b := β3) rfl (yld rfl rfl) (fun hg1 => ?_) (fun hc => ⟨fun hg1 => absurd hg1 hc, Ext.refl _⟩)
      obtain rfl := h17_ hg1
      obtain rfl := h18_ hg1
      refine (does_fcmp (.inr (.inl rfl)) (ev rfl) (ev rfl)).mono ?_; rintro _ _ ⟨rfl, rfl⟩
      exact ⟨fun _ => (by first | rfl | (show _ = _; simp only [hβ4]; done) | (show _ = _; simp only [hβ4]; rfl)), Ext.refl _⟩
    refine RW_d _ rfl (fun v => by dsimp only [List.set]; try rfl) (fun u hu hF => ?_) (fun v26 => ?_)
    · have h16_ : v22 = (Bo β3) := hF.1
      have h19_ : β3 = true → v25 = (Bo β4) := hF.2.1
      clear hF
      refine doesG_un rfl ?_
      skip
      obtain rfl := h16_
      refine (does_pick (b := β3) (u := v25) (v := (Bo false)) (ev rfl) (ev rfl) (ev rfl)).mono ?_; rintro _ _ ⟨rfl, rfl⟩; refine ⟨?_, Ext.refl _⟩; skip
      cases hbb : β3
      all_goals first | (show _ = _; simp only [↓reduceIte, Bool.true_and, Bool.false_and, Bool.true_or, Bool.false_or, Bool.false_eq_true]; done) | (have e_ := h19_ hbb; subst e_; show _ = _; simp only [↓reduceIte, Bool.true_and, Bool.false_and, Bool.true_or, Bool.false_or, Bool.false_eq_true]; done) | rfl | (have e_ := h19_ hbb; subst e_; rfl) | (simp [hbb] at h19_ ⊢; first | done | rfl | (subst h19_; rfl) | simp_all) | (simp [hbb] at h19_ ⊢; done)
    refine RW_fin ?_; intro w27 E28 hP29
    obtain ⟨⟨⟨⟨⟨⟨⟨⟨-, -⟩, -⟩, -⟩, -⟩, -⟩, -⟩, -⟩, q30⟩ := hP29
    have X31 := Ext.gr X16 E28
    have q30 : v26 = (Bo (β3 && β4)) := q30
    obtain rfl := q30
    show wpList _ _ _ _ (fr [_, _, _, _, _, _, _, _, _, _, _, _, _, _, _, _, _, _, _, _, _, _, _, _, _, _, _, _, _, _, _, _, _, _, _, _, _]) _
    refine q_is rfl rfl (does_assign (u := (Bo (β3 && β4))) (ev rfl)) (by dsimp only [List.set]; try rfl) ?_
    refine wpList_nil (hK18 _ _ ?_)
    refine wp_ret ?_
    dsimp only [Exit.then, Exit.inBlock]
    refine ret_val (v := (Bo (β3 && β4))) (res_T rfl (slot rfl)) X31 ?_
    try simp only [hβ1, hβ2, hβ3, hβ4] at c17
    have x32 : (sameF (cf .f64 x) (cf .f64 y)) = (β3 && β4) := by first | with_reducible rfl | (simp only [sameF, hβ1, hβ2, hβ3, hβ4, c17]; done) | (simp [sameF, hβ1, hβ2, hβ3, hβ4, c17]; done) | (revert c17; simp +contextual [sameF, hβ1, hβ2, hβ3, hβ4]; done) | (rcases c17' with hh | hh <;> simp only [hh, sameF, hβ1, hβ2, hβ3, hβ4, c17]; done) | (rcases c17' with hh | hh <;> simp_all [sameF]; done) | (rcases c17' with hh | hh | hh <;> simp_all [sameF]; done) | (rcases c17' with hh | hh | hh | hh <;> simp_all [sameF]; done) | (simp_all [sameF]; done) | rfl
    exact (by first | with_reducible rfl | rw [x32] | rfl)
  have c17' := c17
  (try simp only [hβ1, hβ2] at c17')
  (try simp only [icmp, Bool.and_eq_true, Bool.or_eq_true, Bool.and_eq_false_iff, Bool.or_eq_false_iff, Bool.not_eq_true', Bool.not_eq_false', decide_eq_true_eq, decide_eq_false_iff_not, beq_iff_eq, bne_iff_ne, beq_eq_false_iff_ne, bne_eq_false_iff_eq] at c17')
  refine wp_skip (hK2 _ _ ?_)
  refine wp_seq_k fun K33 hK33 => ?_
  refine wp_seq_k fun K34 hK34 => ?_
  obtain ⟨β5, hβ5⟩ : ∃ b : Bool, b = (fcmp .eql (ford .f64 (cf .f64 x) (cf .f64 0))) := ⟨_, rfl⟩
  obtain ⟨β6, hβ6⟩ : ∃ b : Bool, b = (fcmp .eql (ford .f64 (cf .f64 y) (cf .f64 0))) := ⟨_, rfl⟩
  refine region_text (
    [Fact.pure [] (fun v => v = (Fd x)),
    Fact.pure [21] (fun v => v = (Bo β5)),
    Fact.pure [22] (fun v => v = (Bo β5)),
    Fact.pure [23] (fun v => β5 = true → v = (Fd y)),
    Fact.pure [24, 23] (fun v => β5 = true → v = (Bo β6)),
    Fact.pure [23, 25] (fun v => v = (Bo (β5 && β6)))]) (by simp [Fact.pure, Fact.mem]) ?_
  refine RW_d _ rfl (fun v => by dsimp only [List.set]; try rfl) (fun u hu hF => ?_) (fun v35 => ?_)
  · clear hF
    refine doesG_un rfl ?_
    refine (does_move (u := (Fd x)) (ev rfl)).mono ?_; rintro _ _ ⟨rfl, rfl⟩
    exact ⟨rfl, Ext.refl _⟩
  refine RW_d _ rfl (fun v => by dsimp only [List.set]; try rfl) (fun u hu hF => ?_) (fun v36 => ?_)
  · have h21_ : v35 = (Fd x) := hF.1
    clear hF
    refine doesG_un rfl ?_
    obtain rfl := h21_
    refine (does_fcmp (.inl rfl) (ev rfl) (ev rfl)).mono ?_; rintro _ _ ⟨rfl, rfl⟩
    exact ⟨(by first | rfl | (show _ = _; simp only [hβ5]; done) | (show _ = _; simp only [hβ5]; rfl)), Ext.refl _⟩
  refine RW_d _ rfl (fun v => by dsimp only [List.set]; try rfl) (fun u hu hF => ?_) (fun v37 => ?_)
  · have h22_ : v36 = (Bo β5) := hF.1
    clear hF
    refine doesG_un rfl ?_
    obtain rfl := h22_
    refine (does_move (u := (Bo β5)) (ev rfl)).mono ?_; rintro _ _ ⟨rfl, rfl⟩
    exact ⟨rfl, Ext.refl _⟩
  refine RW_d _ rfl (fun v => by dsimp only [List.set]; try rfl) (fun u hu hF => ?_) (fun v38 => ?_)
  · have h23_ : v37 = (Bo β5) := hF.1
    clear hF
    obtain rfl := h23_
    refine doesG_g (b := β5) rfl (yld rfl rfl) (fun hg1 => ?_) (fun hc => ⟨fun hg1 => absurd hg1 hc, Ext.refl _⟩)
    refine (does_move (u := (Fd y)) (ev rfl)).mono ?_; rintro _ _ ⟨rfl, rfl⟩
    exact ⟨fun _ => rfl, Ext.refl _⟩
  refine RW_d _ rfl (fun v => by dsimp only [List.set]; try rfl) (fun u hu hF => ?_) (fun v39 => ?_)
  · have h24_ : β5 = true → v38 = (Fd y) := hF.1
    have h23_ : v37 = (Bo β5) := hF.2.1
    clear hF
    obtain rfl := h23_
    refine doesG_g (b := β5) rfl (yld rfl rfl) (fun hg1 => ?_) (fun hc => ⟨fun hg1 => absurd hg1 hc, Ext.refl _⟩)
    obtain rfl := h24_ hg1
    refine (does_fcmp (.inl rfl) (ev rfl) (ev rfl)).mono ?_; rintro _ _ ⟨rfl, rfl⟩
    exact ⟨fun _ => (by first | rfl | (show _ = _; simp only [hβ6]; done) | (show _ = _; simp only [hβ6]; rfl)), Ext.refl _⟩
  refine RW_d _ rfl (fun v => by dsimp only [List.set]; try rfl) (fun u hu hF => ?_) (fun v40 => ?_)
  · have h23_ : v37 = (Bo β5) := hF.1
    have h25_ : β5 = true → v39 = (Bo β6) := hF.2.1
    clear hF
    refine doesG_un rfl ?_
    skip
    obtain rfl := h23_
    refine (does_pick (b := β5) (u := v39) (v := (Bo false)) (ev rfl) (ev rfl) (ev rfl)).mono ?_; rintro _ _ ⟨rfl, rfl⟩; refine ⟨?_, Ext.refl _⟩; skip
    cases hbb : β5
    all_goals first | (show _ = _; simp only [↓reduceIte, Bool.true_and, Bool.false_and, Bool.true_or, Bool.false_or, Bool.false_eq_true]; done) | (have e_ := h25_ hbb; subst e_; show _ = _; simp only [↓reduceIte, Bool.true_and, Bool.false_and, Bool.true_or, Bool.false_or, Bool.false_eq_true]; done) | rfl | (have e_ := h25_ hbb; subst e_; rfl) | (simp [hbb] at h25_ ⊢; first | done | rfl | (subst h25_; rfl) | simp_all) | (simp [hbb] at h25_ ⊢; done)
  refine RW_fin ?_; intro w41 E42 hP43
  obtain ⟨⟨⟨⟨⟨⟨-, -⟩, -⟩, -⟩, -⟩, -⟩, q44⟩ := hP43
  have X45 := Ext.gr X16 E42
  have q44 : v40 = (Bo (β5 && β6)) := q44
  obtain rfl := q44
  show wpList _ _ _ _ (fr [_, _, _, _, _, _, _, _, _, _, _, _, _, _, _, _, _, _, _, _, _, _, _, _, _, _, _, _, _, _, _, _, _, _, _, _, _]) _
  refine wpList_nil (hK34 _ _ ?_)
  refine wp_cond_split (t := β5 && β6) (ev rfl) (fun c46 => ?_) (fun c46 => ?_)
  · have c46' := c46
    (try simp only [hβ1, hβ2, hβ5, hβ6] at c46')
    (try simp only [icmp, Bool.and_eq_true, Bool.or_eq_true, Bool.and_eq_false_iff, Bool.or_eq_false_iff, Bool.not_eq_true', Bool.not_eq_false', decide_eq_true_eq, decide_eq_false_iff_not, beq_iff_eq, bne_iff_ne, beq_eq_false_iff_ne, bne_eq_false_iff_eq] at c46')
    refine wp_seq_k fun K47 hK47 => ?_
    refine wp_region_lit ?_
    refine q_is rfl rfl (does_move (u := (Fd x)) (ev rfl)) (by dsimp only [List.set]; try rfl) ?_
    refine seqd rfl rfl (does_float (.inr (.inr (.inr rfl))) (ev rfl) (ev rfl)) ?_; rintro _ w51 ⟨r48, rfl, h49, E50⟩
    have X52 := Ext.gr X45 E50
    show wpList _ _ _ _ (fr [_, _, _, _, _, _, _, _, _, _, _, _, _, _, _, _, _, _, _, _, _, _, _, _, _, _, _, _, _, _, _, _, _, _, _, _, _]) _
    refine q_is rfl rfl (does_fcmp (.inr (.inr (.inr (.inr (.inl rfl))))) (ev rfl) (ev rfl)) (by dsimp only [List.set]; try rfl) ?_
    refine q_is rfl rfl (does_move (u := (Fd y)) (ev rfl)) (by dsimp only [List.set]; try rfl) ?_
    refine seqd rfl rfl (does_float (.inr (.inr (.inr rfl))) (ev rfl) (ev rfl)) ?_; rintro _ w56 ⟨r53, rfl, h54, E55⟩
    have X57 := Ext.gr X52 E55
    show wpList _ _ _ _ (fr [_, _, _, _, _, _, _, _, _, _, _, _, _, _, _, _, _, _, _, _, _, _, _, _, _, _, _, _, _, _, _, _, _, _, _, _, _]) _
    refine q_is rfl rfl (does_fcmp (.inr (.inr (.inr (.inr (.inl rfl))))) (ev rfl) (ev rfl)) (by dsimp only [List.set]; try rfl) ?_
    refine q_is rfl rfl (does_beq (p := (fcmp .gtr (ford .f64 (cf .f64 r48) (cf .f64 0)))) (q := (fcmp .gtr (ford .f64 (cf .f64 r53) (cf .f64 0)))) Try.underlying4 (ev rfl) (ev rfl)) (by dsimp only [List.set]; try rfl) ?_
    refine q_is rfl rfl (does_assign (u := (Bo ((fcmp .gtr (ford .f64 (cf .f64 r48) (cf .f64 0))) == (fcmp .gtr (ford .f64 (cf .f64 r53) (cf .f64 0)))))) (ev rfl)) (by dsimp only [List.set]; try rfl) ?_
    refine wpList_nil (hK47 _ _ ?_)
    refine wp_ret ?_
    dsimp only [Exit.then, Exit.inBlock]
    refine ret_val (v := (Bo ((fcmp .gtr (ford .f64 (cf .f64 r48) (cf .f64 0))) == (fcmp .gtr (ford .f64 (cf .f64 r53) (cf .f64 0)))))) (res_T rfl (slot rfl)) X57 ?_
    try simp only [hβ1, hβ2, hβ5, hβ6, h49, h54] at c17 c46
    have x58 : (sameF (cf .f64 x) (cf .f64 y)) = ((fcmp .gtr (ford .f64 (cf .f64 r48) (cf .f64 0))) == (fcmp .gtr (ford .f64 (cf .f64 r53) (cf .f64 0)))) := by first | with_reducible rfl | (simp only [sameF, hβ1, hβ2, hβ5, hβ6, h49, h54, c17, c46]; done) | (simp [sameF, hβ1, hβ2, hβ5, hβ6, h49, h54, c17, c46]; done) | (revert c17 c46; simp +contextual [sameF, hβ1, hβ2, hβ5, hβ6, h49, h54]; done) | (rcases c17' with hh | hh <;> simp only [hh, sameF, hβ1, hβ2, hβ5, hβ6, h49, h54, c17, c46]; done) | (rcases c46' with hh | hh <;> simp only [hh, sameF, hβ1, hβ2, hβ5, hβ6, h49, h54, c17, c46]; done) | (rcases c46' with hh | hh <;> simp_all [sameF]; done) | (rcases c46' with hh | hh | hh <;> simp_all [sameF]; done) | (rcases c46' with hh | hh | hh | hh <;> simp_all [sameF]; done) | (simp_all [sameF]; done) | rfl
    exact (by first | with_reducible rfl | rw [x58] | rfl)
  have c46' := c46
  (try simp only [hβ1, hβ2, hβ5, hβ6] at c46')
  (try simp only [icmp, Bool.and_eq_true, Bool.or_eq_true, Bool.and_eq_false_iff, Bool.or_eq_false_iff, Bool.not_eq_true', Bool.not_eq_false', decide_eq_true_eq, decide_eq_false_iff_not, beq_iff_eq, bne_iff_ne, beq_eq_false_iff_ne, bne_eq_false_iff_eq] at c46')
  refine wp_skip (hK33 _ _ ?_)
  refine wp_seq_k fun K59 hK59 => ?_
  refine wp_region_lit ?_
  refine q_is rfl rfl (does_move (u := (Fd x)) (ev rfl)) (by dsimp only [List.set]; try rfl) ?_
  refine q_is rfl rfl (does_move (u := (Fd y)) (ev rfl)) (by dsimp only [List.set]; try rfl) ?_
  refine q_is rfl rfl (does_fcmp (.inl rfl) (ev rfl) (ev rfl)) (by dsimp only [List.set]; try rfl) ?_
  refine q_is rfl rfl (does_assign (u := (Bo (fcmp .eql (ford .f64 (cf .f64 x) (cf .f64 y))))) (ev rfl)) (by dsimp only [List.set]; try rfl) ?_
  refine wpList_nil (hK59 _ _ ?_)
  refine wp_ret ?_
  refine ret_val (v := (Bo (fcmp .eql (ford .f64 (cf .f64 x) (cf .f64 y))))) (res_T rfl (slot rfl)) X45 ?_
  try simp only [hβ1, hβ2, hβ5, hβ6] at c17 c46
  have x60 : (sameF (cf .f64 x) (cf .f64 y)) = (fcmp .eql (ford .f64 (cf .f64 x) (cf .f64 y))) := by first | with_reducible rfl | (simp only [sameF, hβ1, hβ2, hβ5, hβ6, c17, c46]; done) | (simp [sameF, hβ1, hβ2, hβ5, hβ6, c17, c46]; done) | (revert c17 c46; simp +contextual [sameF, hβ1, hβ2, hβ5, hβ6]; done) | (rcases c17' with hh | hh <;> simp only [hh, sameF, hβ1, hβ2, hβ5, hβ6, c17, c46]; done) | (rcases c46' with hh | hh <;> simp only [hh, sameF, hβ1, hβ2, hβ5, hβ6, c17, c46]; done) | (rcases c46' with hh | hh <;> simp_all [sameF]; done) | (rcases c46' with hh | hh | hh <;> simp_all [sameF]; done) | (rcases c46' with hh | hh | hh | hh <;> simp_all [sameF]; done) | (simp_all [sameF]; done) | rfl
  exact (by first | with_reducible rfl | rw [x60] | rfl)

/- laws.eqFloat32S -/
theorem c_laws_eqFloat32S (a : Value) (L_a : List Nat) (b : Value) (L_b : List Nat) (w : World) (hv_a : Sl RF 1 w a L_a) (hv_b : Sl RF 1 w b L_b) : Gives Try.prog 90 #[a, b] w (fun v w' => v = (Bo (sameL L_a L_b))) := by
  have hlen_a := Sl.len hv_a; obtain ⟨p_a, q_a, rfl⟩ := Sl.shape hv_a
  have hlen_b := Sl.len hv_b; obtain ⟨p_b, q_b, rfl⟩ := Sl.shape hv_b
  refine enter [(.slice p_a L_a.length q_a), (.slice p_b L_b.length q_b), Ud, Ud, Ud, Ud, Ud, Ud, Ud, Ud, Ud, Ud, Ud, Ud, Ud, Ud, Ud, Ud, Ud, Ud, Ud, Ud, Ud, Ud, Ud, Ud, Ud, Ud, Ud] Try.func90 rfl Try.ntmps90 rfl ?_
  refine wp_seq_k fun K1 hK1 => ?_
  refine wp_region_lit ?_
  refine q_is rfl rfl (does_assign (u := (Bo false)) (ev rfl)) (by dsimp only [List.set]; try rfl) ?_
  refine wpList_nil (hK1 _ _ ?_)
  refine wp_seq_k fun K2 hK2 => ?_
  refine wp_seq_k fun K3 hK3 => ?_
  refine wp_region_lit ?_
  refine q_is rfl rfl (does_move (u := (.slice p_a L_a.length q_a)) (ev rfl)) (by dsimp only [List.set]; try rfl) ?_
  refine q_is rfl rfl (does_len_slice Try.underlying97 (ev rfl)) (by dsimp only [List.set]; try rfl) ?_
  refine q_is rfl rfl (does_move (u := (.slice p_b L_b.length q_b)) (ev rfl)) (by dsimp only [List.set]; try rfl) ?_
  refine q_is rfl rfl (does_len_slice Try.underlying97 (ev rfl)) (by dsimp only [List.set]; try rfl) ?_
  refine q_is rfl rfl (does_icmp (p := (L_a.length : Int)) (q := (L_b.length : Int)) (.inr (.inl rfl)) (ev rfl) (ev rfl)) (by dsimp only [List.set]; try rfl) ?_
  refine wpList_nil (hK3 _ _ ?_)
  refine wp_cond_split (t := icmp .neq (L_a.length : Int) (L_b.length : Int)) (ev rfl) (fun c4 => ?_) (fun c4 => ?_)
  · have c4' := c4
    (try simp only [icmp, Bool.and_eq_true, Bool.or_eq_true, Bool.and_eq_false_iff, Bool.or_eq_false_iff, Bool.not_eq_true', Bool.not_eq_false', decide_eq_true_eq, decide_eq_false_iff_not, beq_iff_eq, bne_iff_ne, beq_eq_false_iff_ne, bne_eq_false_iff_eq] at c4')
    refine wp_seq_k fun K5 hK5 => ?_
    refine wp_region_lit ?_
    refine q_is rfl rfl (does_assign (u := (Bo false)) (ev rfl)) (by dsimp only [List.set]; try rfl) ?_
    refine wpList_nil (hK5 _ _ ?_)
    refine wp_ret ?_
    dsimp only [Exit.then, Exit.inBlock]
    refine ret_val (v := (Bo false)) (res_T rfl (slot rfl)) (Ext.refl w) ?_
    have x6 : (sameL L_a L_b) = false := by first | exact (sameL_len (by omega)) | exact (sameL_not (by omega) (by assumption) (by assumption) (by simp_all)) | exact (sameL_all (by omega) (by omega) hs)
    exact (by first | with_reducible rfl | rw [x6] | rfl)
  have c4' := c4
  (try simp only [icmp, Bool.and_eq_true, Bool.or_eq_true, Bool.and_eq_false_iff, Bool.or_eq_false_iff, Bool.not_eq_true', Bool.not_eq_false', decide_eq_true_eq, decide_eq_false_iff_not, beq_iff_eq, bne_iff_ne, beq_eq_false_iff_ne, bne_eq_false_iff_eq] at c4')
  refine wp_skip (hK2 _ _ ?_)
  refine wp_seq_k fun K7 hK7 => ?_
  refine wp_seq_k fun K8 hK8 => ?_
  refine wp_region_lit ?_
  refine q_is rfl rfl (does_assign (u := (Iv 0)) (ev rfl)) (by dsimp only [List.set]; try rfl) ?_
  refine wpList_nil (hK8 _ _ ?_)
  refine wp_block ?_
  refine loop_ghost (σ := Nat) (fun k a w' => ∃ u9 : Nat → Value, a = fr [(.slice p_a L_a.length q_a), (.slice p_b L_b.length q_b), Ud, Ud, (u9 4), (Iv (k : Int)), (.slice p_a L_a.length q_a), (Iv (L_a.length : Int)), (.slice p_b L_b.length q_b), (Iv (L_b.length : Int)), (Bo (icmp .neq (L_a.length : Int) (L_b.length : Int))), (u9 11), (u9 12), (u9 13), (u9 14), (u9 15), (u9 16), (u9 17), (u9 18), (u9 19), (u9 20), (u9 21), (u9 22), (u9 23), (u9 24), (u9 25), (u9 26), (u9 27), (u9 28)] ∧ Ext w w' ∧ (k ≤ L_a.length ∧ SameTo L_a L_b k)) (fun k => L_a.length - k) 0 ?_ ?_
  · refine ⟨fun t => (([(.slice p_a L_a.length q_a), (.slice p_b L_b.length q_b), Ud, Ud, (Bo false), (Iv 0), (.slice p_a L_a.length q_a), (Iv (L_a.length : Int)), (.slice p_b L_b.length q_b), (Iv (L_b.length : Int)), (Bo (icmp .neq (L_a.length : Int) (L_b.length : Int))), Ud, Ud, Ud, Ud, Ud, Ud, Ud, Ud, Ud, Ud, Ud, Ud, Ud, Ud, Ud, Ud, Ud, Ud] : List Value)[t]?).getD undef, rfl, Ext.refl _, ?_⟩
    exact ⟨Nat.zero_le _, SameTo.zero⟩
  · rintro k a w10 ⟨u9, rfl, E11, ⟨hk, hs⟩⟩
    have X13 := Ext.gr (Ext.refl w) E11
    refine wp_seq_k fun K14 hK14 => ?_
    refine wp_seq_k fun K15 hK15 => ?_
    refine wp_region_lit ?_
    refine q_is rfl rfl (does_move (u := (Iv (k : Int))) (ev rfl)) (by dsimp only [List.set]; try rfl) ?_
    refine q_is rfl rfl (does_move (u := (.slice p_a L_a.length q_a)) (ev rfl)) (by dsimp only [List.set]; try rfl) ?_
    refine q_is rfl rfl (does_len_slice Try.underlying97 (ev rfl)) (by dsimp only [List.set]; try rfl) ?_
    refine q_is rfl rfl (does_icmp (p := (k : Int)) (q := (L_a.length : Int)) (.inr (.inr (.inl rfl))) (ev rfl) (ev rfl)) (by dsimp only [List.set]; try rfl) ?_
    refine wpList_nil (hK15 _ _ ?_)
    refine wp_cond_split (t := icmp .lss (k : Int) (L_a.length : Int)) (ev rfl) (fun c16 => ?_) (fun c16 => ?_)
    · have c16' := c16
      (try simp only [icmp, Bool.and_eq_true, Bool.or_eq_true, Bool.and_eq_false_iff, Bool.or_eq_false_iff, Bool.not_eq_true', Bool.not_eq_false', decide_eq_true_eq, decide_eq_false_iff_not, beq_iff_eq, bne_iff_ne, beq_eq_false_iff_ne, bne_eq_false_iff_eq] at c16')
      refine wp_skip (hK14 _ _ ?_)
      refine wp_seq_k fun K17 hK17 => ?_
      refine wp_block ?_
      refine wp_seq_k fun K18 hK18 => ?_
      obtain ⟨el1, hel1⟩ : ∃ e, L_a[k]? = some e := ⟨_, List.getElem?_eq_getElem (by omega)⟩
      obtain ⟨el2, hel2⟩ : ∃ e, L_b[k]? = some e := ⟨_, List.getElem?_eq_getElem (by omega)⟩
      obtain ⟨β1, hβ1⟩ : ∃ b : Bool, b = (sameF (fwid el1) (fwid el2)) := ⟨_, rfl⟩
      refine region_draw (
        [Fact.pure [] (fun v => v = (.slice p_a L_a.length q_a)),
    Fact.pure [] (fun v => v = (Iv (k : Int))),
    Fact.mem [17, 18] (fun v w' => PtrR RF w' v el1) (by intro v w1 w2 hx h; exact h.ext RF.mono hx),
    Fact.pure [19] (fun v => ∃ r_1 : Nat, v = (Fl r_1) ∧ cf .f32 r_1 = el1),
    Fact.pure [20] (fun v => ∃ r_1 : Nat, v = (Fd r_1) ∧ cf .f64 r_1 = fwid el1),
    Fact.pure [] (fun v => v = (.slice p_b L_b.length q_b)),
    Fact.pure [] (fun v => v = (Iv (k : Int))),
    Fact.mem [22, 23] (fun v w' => PtrR RF w' v el2) (by intro v w1 w2 hx h; exact h.ext RF.mono hx),
    Fact.pure [24] (fun v => ∃ r_1 : Nat, v = (Fl r_1) ∧ cf .f32 r_1 = el2),
    Fact.pure [25] (fun v => ∃ r_1 : Nat, v = (Fd r_1) ∧ cf .f64 r_1 = fwid el2),
    Fact.pure [21, 26] (fun v => v = (Bo β1)),
    Fact.pure [27] (fun v => v = (Bo (!β1)))]) mixed (by kernel_rfl) (by intro _ _ d _ _ h; cases d <;> exact h) ?_
      obtain ⟨w19, hw21⟩ : ∃ w', w' = World.drew w10 := ⟨_, rfl⟩; rw [← hw21]; have E20 : Ext w10 w19 := by rw [hw21]; exact Ext.draw _
      clear hw21
      have X22 := Ext.gr X13 E20
      refine RW_d _ rfl (fun v => by dsimp only [List.set]; try rfl) (fun u hu hF => ?_) (fun v23 => ?_)
      · clear hF
        refine doesG_un rfl ?_
        refine (does_move (u := (.slice p_a L_a.length q_a)) (ev rfl)).mono ?_; rintro _ _ ⟨rfl, rfl⟩
        exact ⟨rfl, Ext.refl _⟩
      refine RW_d _ rfl (fun v => by dsimp only [List.set]; try rfl) (fun u hu hF => ?_) (fun v24 => ?_)
      · clear hF
        refine doesG_un rfl ?_
        refine (does_move (u := (Iv (k : Int))) (ev rfl)).mono ?_; rintro _ _ ⟨rfl, rfl⟩
        exact ⟨rfl, Ext.refl _⟩
      refine RW_d _ rfl (fun v => by dsimp only [List.set]; try rfl) (fun u hu hF => ?_) (fun v25 => ?_)
      · have h17_ : v23 = (.slice p_a L_a.length q_a) := hF.1
        have h18_ : v24 = (Iv (k : Int)) := hF.2.1
        clear hF
        refine doesG_un rfl ?_
        obtain rfl := h17_
        obtain rfl := h18_
        refine (does_indexSl (R := RF) (i := (k : Int)) (xs := L_a) (e := el1) Try.underlying97 Try.sizeOf38 (ev rfl) (ev rfl) (Sl.ext (Sl.ext hv_a RF.mono (Ext.gr X13 E20)) RF.mono hu) (by omega) hel1).mono ?_; rintro v u' ⟨b, of, cs, hv, hc, hR, hu'⟩; subst hu'
        exact ⟨⟨b, of, cs, hv, hc, hR⟩, Ext.refl _⟩
      refine RW_d _ rfl (fun v => by dsimp only [List.set]; try rfl) (fun u hu hF => ?_) (fun v26 => ?_)
      · have h19_ : PtrR RF u v25 el1 := hF.1
        clear hF
        refine doesG_un rfl ?_
        obtain ⟨b19_, o19_, _, rfl, hc19_, ⟨r19_1, rfl, h19_2⟩⟩ := h19_
        refine (does_load (u := (Fl r19_1)) (ev rfl) Try.isAgg38 (Cells.at hc19_ 0 rfl)).mono ?_; rintro _ _ ⟨rfl, rfl⟩
        exact ⟨⟨r19_1, rfl, (by simp only [h19_2])⟩, Ext.refl _⟩
      refine RW_d _ rfl (fun v => by dsimp only [List.set]; try rfl) (fun u hu hF => ?_) (fun v27 => ?_)
      · have h20_ : ∃ r_1 : Nat, v26 = (Fl r_1) ∧ cf .f32 r_1 = el1 := hF.1
        clear hF
        refine doesG_un rfl ?_
        obtain ⟨r20_1, rfl, h20_2⟩ := h20_
        refine (does_widen Try.underlying38 Try.underlying84 (ev rfl)).mono ?_; rintro _ _ ⟨r, rfl, hr, hx⟩
        exact ⟨⟨r, rfl, (by simp only [hr, h20_2])⟩, hx⟩
      refine RW_d _ rfl (fun v => by dsimp only [List.set]; try rfl) (fun u hu hF => ?_) (fun v28 => ?_)
      · clear hF
        refine doesG_un rfl ?_
        refine (does_move (u := (.slice p_b L_b.length q_b)) (ev rfl)).mono ?_; rintro _ _ ⟨rfl, rfl⟩
        exact ⟨rfl, Ext.refl _⟩
      refine RW_d _ rfl (fun v => by dsimp only [List.set]; try rfl) (fun u hu hF => ?_) (fun v29 => ?_)
      · clear hF
        refine doesG_un rfl ?_
        refine (does_move (u := (Iv (k : Int))) (ev rfl)).mono ?_; rintro _ _ ⟨rfl, rfl⟩
        exact ⟨rfl, Ext.refl _⟩
      refine RW_d _ rfl (fun v => by dsimp only [List.set]; try rfl) (fun u hu hF => ?_) (fun v30 => ?_)
      · have h22_ : v28 = (.slice p_b L_b.length q_b) := hF.1
        have h23_ : v29 = (Iv (k : Int)) := hF.2.1
        clear hF
        refine doesG_un rfl ?_
        obtain rfl := h22_
        obtain rfl := h23_
        refine (does_indexSl (R := RF) (i := (k : Int)) (xs := L_b) (e := el2) Try.underlying97 Try.sizeOf38 (ev rfl) (ev rfl) (Sl.ext (Sl.ext hv_b RF.mono (Ext.gr X13 E20)) RF.mono hu) (by omega) hel2).mono ?_; rintro v u' ⟨b, of, cs, hv, hc, hR, hu'⟩; subst hu'
        exact ⟨⟨b, of, cs, hv, hc, hR⟩, Ext.refl _⟩
      refine RW_d _ rfl (fun v => by dsimp only [List.set]; try rfl) (fun u hu hF => ?_) (fun v31 => ?_)
      · have h24_ : PtrR RF u v30 el2 := hF.1
        clear hF
        refine doesG_un rfl ?_
        obtain ⟨b24_, o24_, _, rfl, hc24_, ⟨r24_1, rfl, h24_2⟩⟩ := h24_
        refine (does_load (u := (Fl r24_1)) (ev rfl) Try.isAgg38 (Cells.at hc24_ 0 rfl)).mono ?_; rintro _ _ ⟨rfl, rfl⟩
        exact ⟨⟨r24_1, rfl, (by simp only [h24_2])⟩, Ext.refl _⟩
      refine RW_d _ rfl (fun v => by dsimp only [List.set]; try rfl) (fun u hu hF => ?_) (fun v32 => ?_)
      · have h25_ : ∃ r_1 : Nat, v31 = (Fl r_1) ∧ cf .f32 r_1 = el2 := hF.1
        clear hF
        refine doesG_un rfl ?_
        obtain ⟨r25_1, rfl, h25_2⟩ := h25_
        refine (does_widen Try.underlying38 Try.underlying84 (ev rfl)).mono ?_; rintro _ _ ⟨r, rfl, hr, hx⟩
        exact ⟨⟨r, rfl, (by simp only [hr, h25_2])⟩, hx⟩
      refine RW_d _ rfl (fun v => by dsimp only [List.set]; try rfl) (fun u hu hF => ?_) (fun v33 => ?_)
      · have h21_ : ∃ r_1 : Nat, v27 = (Fd r_1) ∧ cf .f64 r_1 = fwid el1 := hF.1
        have h26_ : ∃ r_1 : Nat, v32 = (Fd r_1) ∧ cf .f64 r_1 = fwid el2 := hF.2.1
        clear hF
        refine doesG_un rfl ?_
        obtain ⟨r21_1, rfl, h21_2⟩ := h21_
        obtain ⟨r26_1, rfl, h26_2⟩ := h26_
        refine (does_call (args := #[(Fd r21_1), (Fd r26_1)]) cal37 (evs rfl) (c_laws_sameFloat r21_1 r26_1 _)).mono ?_; rintro v u' ⟨hx, hv⟩
        exact ⟨hv.trans (by simp only [hβ1, h21_2, h26_2]), hx⟩
      refine RW_d _ rfl (fun v => by dsimp only [List.set]; try rfl) (fun u hu hF => ?_) (fun v34 => ?_)
      · have h27_ : v33 = (Bo β1) := hF.1
        clear hF
        refine doesG_un rfl ?_
        obtain rfl := h27_
        refine (does_not (ev rfl)).mono ?_; rintro _ _ ⟨rfl, rfl⟩
        exact ⟨rfl, Ext.refl _⟩
      refine RW_fin ?_; intro w35 E36 hP37
      obtain ⟨⟨⟨⟨⟨⟨⟨⟨⟨⟨⟨⟨-, -⟩, -⟩, -⟩, -⟩, -⟩, -⟩, -⟩, -⟩, -⟩, -⟩, -⟩, q38⟩ := hP37
      have X39 := Ext.gr X22 E36
      have q38 : v34 = (Bo (!β1)) := q38
      obtain rfl := q38
      show wpList _ _ _ _ (fr [_, _, _, _, _, _, _, _, _, _, _, _, _, _, _, _, _, _, _, _, _, _, _, _, _, _, _, _, _]) _
      refine wpList_nil (hK18 _ _ ?_)
      refine wp_cond_split (t := !β1) (ev rfl) (fun c40 => ?_) (fun c40 => ?_)
      · rw [Bool.not_eq_true'] at c40
        have c40' := c40
        (try simp only [hβ1] at c40')
        (try simp only [icmp, Bool.and_eq_true, Bool.or_eq_true, Bool.and_eq_false_iff, Bool.or_eq_false_iff, Bool.not_eq_true', Bool.not_eq_false', decide_eq_true_eq, decide_eq_false_iff_not, beq_iff_eq, bne_iff_ne, beq_eq_false_iff_ne, bne_eq_false_iff_eq] at c40')
        refine wp_seq_k fun K41 hK41 => ?_
        refine wp_region_lit ?_
        refine q_is rfl rfl (does_assign (u := (Bo false)) (ev rfl)) (by dsimp only [List.set]; try rfl) ?_
        refine wpList_nil (hK41 _ _ ?_)
        refine wp_ret ?_
        dsimp only [Exit.then, Exit.inBlock]
        refine ret_val (v := (Bo false)) (res_T rfl (slot rfl)) X39 ?_
        try simp only [hβ1, hel1, hel2] at c4 c16 c40
        have x42 : (sameL L_a L_b) = false := by first | exact (sameL_len (by omega)) | exact (sameL_not (by omega) (by assumption) (by assumption) (by simp_all)) | exact (sameL_all (by omega) (by omega) hs)
        exact (by first | with_reducible rfl | rw [x42] | rfl)
      rw [Bool.not_eq_false'] at c40
      have c40' := c40
      (try simp only [hβ1] at c40')
      (try simp only [icmp, Bool.and_eq_true, Bool.or_eq_true, Bool.and_eq_false_iff, Bool.or_eq_false_iff, Bool.not_eq_true', Bool.not_eq_false', decide_eq_true_eq, decide_eq_false_iff_not, beq_iff_eq, bne_iff_ne, beq_eq_false_iff_ne, bne_eq_false_iff_eq] at c40')
      refine wp_skip (hK17 _ _ ?_)
      refine wp_region_lit ?_
      refine q_is rfl rfl (does_move (u := (Iv (k : Int))) (ev rfl)) (by dsimp only [List.set]; try rfl) ?_
      refine q_is rfl rfl (does_iarith (p := (k : Int)) (q := 1) (r := (k : Int) + 1) (ev rfl) (ev rfl) (.inl ⟨rfl, (in_i64 (by omega) (by omega)).symm⟩)) (by dsimp only [List.set]; try rfl) ?_
      refine q_is rfl rfl (does_assign (u := (Iv ((k : Int) + 1))) (ev rfl)) (by dsimp only [List.set]; try rfl) ?_
      refine wpList_nil ?_
      refine ⟨k + 1, ⟨fun t => (([(.slice p_a L_a.length q_a), (.slice p_b L_b.length q_b), Ud, Ud, (u9 4), (Iv ((k : Int) + 1)), (.slice p_a L_a.length q_a), (Iv (L_a.length : Int)), (.slice p_b L_b.length q_b), (Iv (L_b.length : Int)), (Bo (icmp .neq (L_a.length : Int) (L_b.length : Int))), (Iv (k : Int)), (.slice p_a L_a.length q_a), (Iv (L_a.length : Int)), (Bo (icmp .lss (k : Int) (L_a.length : Int))), (Iv (k : Int)), (Iv ((k : Int) + 1)), v23, v24, v25, v26, v27, v28, v29, v30, v31, v32, v33, (Bo (!β1))] : List Value)[t]?).getD undef, ?_, (Ext.gr (Ext.gr E11 E20) E36), ?_⟩, ?_⟩
      · first | rfl | (simp only [Nat.cast_add, Nat.cast_one, Int.natCast_add, Int.natCast_one]; rfl)
      · exact ⟨by omega, SameTo.step hs (by assumption) (by assumption) (by simp_all)⟩
      · omega
    have c16' := c16
    (try simp only [icmp, Bool.and_eq_true, Bool.or_eq_true, Bool.and_eq_false_iff, Bool.or_eq_false_iff, Bool.not_eq_true', Bool.not_eq_false', decide_eq_true_eq, decide_eq_false_iff_not, beq_iff_eq, bne_iff_ne, beq_eq_false_iff_ne, bne_eq_false_iff_eq] at c16')
    refine wp_exit ?_
    refine hK7 _ _ ?_
    refine wp_seq_k fun K43 hK43 => ?_
    refine wp_region_lit ?_
    refine q_is rfl rfl (does_assign (u := (Bo true)) (ev rfl)) (by dsimp only [List.set]; try rfl) ?_
    refine wpList_nil (hK43 _ _ ?_)
    refine wp_ret ?_
    refine ret_val (v := (Bo true)) (res_T rfl (slot rfl)) X13 ?_
    have x44 : (sameL L_a L_b) = true := by first | exact (sameL_len (by omega)) | exact (sameL_not (by omega) (by assumption) (by assumption) (by simp_all)) | exact (sameL_all (by omega) (by omega) hs)
    exact (by first | with_reducible rfl | rw [x44] | rfl)

/- laws.eqNode -/
theorem c_laws_eqNode (a : List Value) (A_a : NodeT) (b : List Value) (A_b : NodeT) (w : World) (hv_a : RNodeT w A_a a) (hv_b : RNodeT w A_b b) : Gives Try.prog 63 #[(.agg a.toArray), (.agg b.toArray)] w (fun v w' => v = (Bo (sameNd A_a A_b))) := by
  obtain ⟨y1, rfl, h2⟩ := hv_a
  obtain ⟨y3, rfl, h4⟩ := hv_b
  have hs7 := h2; have hs7l := Sl.len h2; obtain ⟨p5, q6, rfl⟩ := Sl.shape h2
  have hs10 := h4; have hs10l := Sl.len h4; obtain ⟨p8, q9, rfl⟩ := Sl.shape h4
  refine enter [(.agg #[(Iv A_a.kind), (Iv A_a.a), (Iv A_a.b), (.slice p5 A_a.nums.length q6)]), (.agg #[(Iv A_b.kind), (Iv A_b.a), (Iv A_b.b), (.slice p8 A_b.nums.length q9)]), Ud, Ud, Ud, Ud, Ud, Ud, Ud, Ud, Ud, Ud, Ud, Ud, Ud, Ud, Ud, Ud, Ud, Ud, Ud, Ud, Ud, Ud, Ud, Ud] Try.func63 rfl Try.ntmps63 rfl ?_
  refine wp_seq_k fun K11 hK11 => ?_
  refine wp_region_lit ?_
  refine seqd rfl rfl (does_box (u := (.agg #[(Iv A_a.kind), (Iv A_a.a), (Iv A_a.b), (.slice p5 A_a.nums.length q6)])) (ev rfl)) ?_; rintro _ w16 ⟨b12, rfl, hb13, hB14, E15⟩
  have g17 : w.heap.size ≤ b12 := Nat.le_trans (Below.size (Ext.refl w)) hb13
  change Blk _ _ [(Iv A_a.kind), (Iv A_a.a), (Iv A_a.b), (.slice p5 A_a.nums.length q6)] at hB14
  have X18 := Ext.gr (Ext.refl w) E15
  show wpList _ _ _ _ (fr [_, _, _, _, _, _, _, _, _, _, _, _, _, _, _, _, _, _, _, _, _, _, _, _, _, _]) _
  refine seqd rfl rfl (does_box (u := (.agg #[(Iv A_b.kind), (Iv A_b.a), (Iv A_b.b), (.slice p8 A_b.nums.length q9)])) (ev rfl)) ?_; rintro _ w23 ⟨b19, rfl, hb20, hB21, E22⟩
  have n24 : b12 < b19 := Nat.lt_of_lt_of_le (Blk.lt hB14) hb20
  have g25 : w.heap.size ≤ b19 := Nat.le_trans (Below.size X18) hb20
  change Blk _ _ [(Iv A_b.kind), (Iv A_b.a), (Iv A_b.b), (.slice p8 A_b.nums.length q9)] at hB21
  have X26 := Ext.gr X18 E22
  show wpList _ _ _ _ (fr [_, _, _, _, _, _, _, _, _, _, _, _, _, _, _, _, _, _, _, _, _, _, _, _, _, _]) _
  refine q_is rfl rfl (does_assign (u := (Bo false)) (ev rfl)) (by dsimp only [List.set]; try rfl) ?_
  refine wpList_nil (hK11 _ _ ?_)
  refine wp_seq_k fun K27 hK27 => ?_
  refine wp_seq_k fun K28 hK28 => ?_
  refine wp_region_lit ?_
  refine q_is rfl rfl (does_fieldAddr (ev rfl) fa102_0) (by dsimp only [List.set]; try rfl) ?_
  refine q_is rfl rfl (does_load (u := (Iv A_a.kind)) (ev rfl) Try.isAgg2 (Cells.at (Blk.cells (hB14.ext E22)) 0 rfl)) (by dsimp only [List.set]; try rfl) ?_
  refine q_is rfl rfl (does_fieldAddr (ev rfl) fa102_0) (by dsimp only [List.set]; try rfl) ?_
  refine q_is rfl rfl (does_load (u := (Iv A_b.kind)) (ev rfl) Try.isAgg2 (Cells.at (Blk.cells hB21) 0 rfl)) (by dsimp only [List.set]; try rfl) ?_
  refine q_is rfl rfl (does_icmp (p := A_a.kind) (q := A_b.kind) (.inr (.inl rfl)) (ev rfl) (ev rfl)) (by dsimp only [List.set]; try rfl) ?_
  refine wpList_nil (hK28 _ _ ?_)
  refine wp_cond_split (t := icmp .neq A_a.kind A_b.kind) (ev rfl) (fun c29 => ?_) (fun c29 => ?_)
  · have c29' := c29
    (try simp only [icmp, Bool.and_eq_true, Bool.or_eq_true, Bool.and_eq_false_iff, Bool.or_eq_false_iff, Bool.not_eq_true', Bool.not_eq_false', decide_eq_true_eq, decide_eq_false_iff_not, beq_iff_eq, bne_iff_ne, beq_eq_false_iff_ne, bne_eq_false_iff_eq] at c29')
    refine wp_seq_k fun K30 hK30 => ?_
    refine wp_region_lit ?_
    refine q_is rfl rfl (does_assign (u := (Bo false)) (ev rfl)) (by dsimp only [List.set]; try rfl) ?_
    refine wpList_nil (hK30 _ _ ?_)
    refine wp_ret ?_
    dsimp only [Exit.then, Exit.inBlock]
    refine ret_val (v := (Bo false)) (res_T rfl (slot rfl)) X26 ?_
    have x31 : (sameNd A_a A_b) = false := by first | with_reducible rfl | (simp only [sameNd, icmp, c29]; done) | (simp [sameNd, icmp, c29]; done) | (revert c29; simp +contextual [sameNd, icmp]; done) | (rcases c29' with hh | hh <;> simp only [hh, sameNd, icmp, c29]; done) | (rcases c29' with hh | hh <;> simp_all [sameNd, icmp]; done) | (rcases c29' with hh | hh | hh <;> simp_all [sameNd, icmp]; done) | (rcases c29' with hh | hh | hh | hh <;> simp_all [sameNd, icmp]; done) | (simp_all [sameNd, icmp]; done) | rfl
    exact (by first | with_reducible rfl | rw [x31] | rfl)
  have c29' := c29
  (try simp only [icmp, Bool.and_eq_true, Bool.or_eq_true, Bool.and_eq_false_iff, Bool.or_eq_false_iff, Bool.not_eq_true', Bool.not_eq_false', decide_eq_true_eq, decide_eq_false_iff_not, beq_iff_eq, bne_iff_ne, beq_eq_false_iff_ne, bne_eq_false_iff_eq] at c29')
  refine wp_skip (hK27 _ _ ?_)
  refine wp_seq_k fun K32 hK32 => ?_
  refine wp_seq_k fun K33 hK33 => ?_
  refine wp_region_lit ?_
  refine q_is rfl rfl (does_fieldAddr (ev rfl) fa102_1) (by dsimp only [List.set]; try rfl) ?_
  refine q_is rfl rfl (does_load (u := (Iv A_a.a)) (ev rfl) Try.isAgg2 (Cells.at (Blk.cells (hB14.ext E22)) 1 rfl)) (by dsimp only [List.set]; try rfl) ?_
  refine q_is rfl rfl (does_fieldAddr (ev rfl) fa102_1) (by dsimp only [List.set]; try rfl) ?_
  refine q_is rfl rfl (does_load (u := (Iv A_b.a)) (ev rfl) Try.isAgg2 (Cells.at (Blk.cells hB21) 1 rfl)) (by dsimp only [List.set]; try rfl) ?_
  refine q_is rfl rfl (does_icmp (p := A_a.a) (q := A_b.a) (.inr (.inl rfl)) (ev rfl) (ev rfl)) (by dsimp only [List.set]; try rfl) ?_
  refine wpList_nil (hK33 _ _ ?_)
  refine wp_cond_split (t := icmp .neq A_a.a A_b.a) (ev rfl) (fun c34 => ?_) (fun c34 => ?_)
  · have c34' := c34
    (try simp only [icmp, Bool.and_eq_true, Bool.or_eq_true, Bool.and_eq_false_iff, Bool.or_eq_false_iff, Bool.not_eq_true', Bool.not_eq_false', decide_eq_true_eq, decide_eq_false_iff_not, beq_iff_eq, bne_iff_ne, beq_eq_false_iff_ne, bne_eq_false_iff_eq] at c34')
    refine wp_seq_k fun K35 hK35 => ?_
    refine wp_region_lit ?_
    refine q_is rfl rfl (does_assign (u := (Bo false)) (ev rfl)) (by dsimp only [List.set]; try rfl) ?_
    refine wpList_nil (hK35 _ _ ?_)
    refine wp_ret ?_
    dsimp only [Exit.then, Exit.inBlock]
    refine ret_val (v := (Bo false)) (res_T rfl (slot rfl)) X26 ?_
    have x36 : (sameNd A_a A_b) = false := by first | with_reducible rfl | (simp only [sameNd, icmp, c29, c34]; done) | (simp [sameNd, icmp, c29, c34]; done) | (revert c29 c34; simp +contextual [sameNd, icmp]; done) | (rcases c29' with hh | hh <;> simp only [hh, sameNd, icmp, c29, c34]; done) | (rcases c34' with hh | hh <;> simp only [hh, sameNd, icmp, c29, c34]; done) | (rcases c34' with hh | hh <;> simp_all [sameNd, icmp]; done) | (rcases c34' with hh | hh | hh <;> simp_all [sameNd, icmp]; done) | (rcases c34' with hh | hh | hh | hh <;> simp_all [sameNd, icmp]; done) | (simp_all [sameNd, icmp]; done) | rfl
    exact (by first | with_reducible rfl | rw [x36] | rfl)
  have c34' := c34
  (try simp only [icmp, Bool.and_eq_true, Bool.or_eq_true, Bool.and_eq_false_iff, Bool.or_eq_false_iff, Bool.not_eq_true', Bool.not_eq_false', decide_eq_true_eq, decide_eq_false_iff_not, beq_iff_eq, bne_iff_ne, beq_eq_false_iff_ne, bne_eq_false_iff_eq] at c34')
  refine wp_skip (hK32 _ _ ?_)
  refine wp_seq_k fun K37 hK37 => ?_
  refine wp_seq_k fun K38 hK38 => ?_
  refine wp_region_lit ?_
  refine q_is rfl rfl (does_fieldAddr (ev rfl) fa102_2) (by dsimp only [List.set]; try rfl) ?_
  refine q_is rfl rfl (does_load (u := (Iv A_a.b)) (ev rfl) Try.isAgg2 (Cells.at (Blk.cells (hB14.ext E22)) 2 rfl)) (by dsimp only [List.set]; try rfl) ?_
  refine q_is rfl rfl (does_fieldAddr (ev rfl) fa102_2) (by dsimp only [List.set]; try rfl) ?_
  refine q_is rfl rfl (does_load (u := (Iv A_b.b)) (ev rfl) Try.isAgg2 (Cells.at (Blk.cells hB21) 2 rfl)) (by dsimp only [List.set]; try rfl) ?_
  refine q_is rfl rfl (does_icmp (p := A_a.b) (q := A_b.b) (.inr (.inl rfl)) (ev rfl) (ev rfl)) (by dsimp only [List.set]; try rfl) ?_
  refine wpList_nil (hK38 _ _ ?_)
  refine wp_cond_split (t := icmp .neq A_a.b A_b.b) (ev rfl) (fun c39 => ?_) (fun c39 => ?_)
  · have c39' := c39
    (try simp only [icmp, Bool.and_eq_true, Bool.or_eq_true, Bool.and_eq_false_iff, Bool.or_eq_false_iff, Bool.not_eq_true', Bool.not_eq_false', decide_eq_true_eq, decide_eq_false_iff_not, beq_iff_eq, bne_iff_ne, beq_eq_false_iff_ne, bne_eq_false_iff_eq] at c39')
    refine wp_seq_k fun K40 hK40 => ?_
    refine wp_region_lit ?_
    refine q_is rfl rfl (does_assign (u := (Bo false)) (ev rfl)) (by dsimp only [List.set]; try rfl) ?_
    refine wpList_nil (hK40 _ _ ?_)
    refine wp_ret ?_
    dsimp only [Exit.then, Exit.inBlock]
    refine ret_val (v := (Bo false)) (res_T rfl (slot rfl)) X26 ?_
    have x41 : (sameNd A_a A_b) = false := by first | with_reducible rfl | (simp only [sameNd, icmp, c29, c34, c39]; done) | (simp [sameNd, icmp, c29, c34, c39]; done) | (revert c29 c34 c39; simp +contextual [sameNd, icmp]; done) | (rcases c29' with hh | hh <;> simp only [hh, sameNd, icmp, c29, c34, c39]; done) | (rcases c34' with hh | hh <;> simp only [hh, sameNd, icmp, c29, c34, c39]; done) | (rcases c39' with hh | hh <;> simp only [hh, sameNd, icmp, c29, c34, c39]; done) | (rcases c39' with hh | hh <;> simp_all [sameNd, icmp]; done) | (rcases c39' with hh | hh | hh <;> simp_all [sameNd, icmp]; done) | (rcases c39' with hh | hh | hh | hh <;> simp_all [sameNd, icmp]; done) | (simp_all [sameNd, icmp]; done) | rfl
    exact (by first | with_reducible rfl | rw [x41] | rfl)
  have c39' := c39
  (try simp only [icmp, Bool.and_eq_true, Bool.or_eq_true, Bool.and_eq_false_iff, Bool.or_eq_false_iff, Bool.not_eq_true', Bool.not_eq_false', decide_eq_true_eq, decide_eq_false_iff_not, beq_iff_eq, bne_iff_ne, beq_eq_false_iff_ne, bne_eq_false_iff_eq] at c39')
  refine wp_skip (hK37 _ _ ?_)
  refine wp_seq_k fun K42 hK42 => ?_
  refine wp_seq_k fun K43 hK43 => ?_
  refine wp_region_lit ?_
  refine q_is rfl rfl (does_fieldAddr (ev rfl) fa102_3) (by dsimp only [List.set]; try rfl) ?_
  refine q_is rfl rfl (does_load (u := (.slice p5 A_a.nums.length q6)) (ev rfl) Try.isAgg97 (Cells.at (Blk.cells (hB14.ext E22)) 3 rfl)) (by dsimp only [List.set]; try rfl) ?_
  refine q_is rfl rfl (does_fieldAddr (ev rfl) fa102_3) (by dsimp only [List.set]; try rfl) ?_
  refine q_is rfl rfl (does_load (u := (.slice p8 A_b.nums.length q9)) (ev rfl) Try.isAgg97 (Cells.at (Blk.cells hB21) 3 rfl)) (by dsimp only [List.set]; try rfl) ?_
  refine seqd rfl rfl (does_call (args := #[(.slice p5 A_a.nums.length q6), (.slice p8 A_b.nums.length q9)]) cal90 (evs rfl) (c_laws_eqFloat32S (.slice p5 A_a.nums.length q6) A_a.nums (.slice p8 A_b.nums.length q9) A_b.nums _ (Sl.ext hs7 RF.mono X26) (Sl.ext hs10 RF.mono X26))) ?_; rintro _ w45 ⟨E44, rfl⟩
  have X46 := Ext.gr X26 E44
  show wpList _ _ _ _ (fr [_, _, _, _, _, _, _, _, _, _, _, _, _, _, _, _, _, _, _, _, _, _, _, _, _, _]) _
  refine q_is rfl rfl (does_not (ev rfl)) (by dsimp only [List.set]; try rfl) ?_
  refine wpList_nil (hK43 _ _ ?_)
  refine wp_cond_split (t := !(sameL A_a.nums A_b.nums)) (ev rfl) (fun c47 => ?_) (fun c47 => ?_)
  · rw [Bool.not_eq_true'] at c47
    have c47' := c47
    refine wp_seq_k fun K48 hK48 => ?_
    refine wp_region_lit ?_
    refine q_is rfl rfl (does_assign (u := (Bo false)) (ev rfl)) (by dsimp only [List.set]; try rfl) ?_
    refine wpList_nil (hK48 _ _ ?_)
    refine wp_ret ?_
    dsimp only [Exit.then, Exit.inBlock]
    refine ret_val (v := (Bo false)) (res_T rfl (slot rfl)) X46 ?_
    have x49 : (sameNd A_a A_b) = false := by first | with_reducible rfl | (simp only [sameNd, icmp, c29, c34, c39, c47]; done) | (simp [sameNd, icmp, c29, c34, c39, c47]; done) | (revert c29 c34 c39 c47; simp +contextual [sameNd, icmp]; done) | (rcases c29' with hh | hh <;> simp only [hh, sameNd, icmp, c29, c34, c39, c47]; done) | (rcases c34' with hh | hh <;> simp only [hh, sameNd, icmp, c29, c34, c39, c47]; done) | (rcases c39' with hh | hh <;> simp only [hh, sameNd, icmp, c29, c34, c39, c47]; done) | (rcases c47' with hh | hh <;> simp only [hh, sameNd, icmp, c29, c34, c39, c47]; done) | (rcases c47' with hh | hh <;> simp_all [sameNd, icmp]; done) | (rcases c47' with hh | hh | hh <;> simp_all [sameNd, icmp]; done) | (rcases c47' with hh | hh | hh | hh <;> simp_all [sameNd, icmp]; done) | (simp_all [sameNd, icmp]; done) | rfl
    exact (by first | with_reducible rfl | rw [x49] | rfl)
  rw [Bool.not_eq_false'] at c47
  have c47' := c47
  refine wp_skip (hK42 _ _ ?_)
  refine wp_seq_k fun K50 hK50 => ?_
  refine wp_region_lit ?_
  refine q_is rfl rfl (does_assign (u := (Bo true)) (ev rfl)) (by dsimp only [List.set]; try rfl) ?_
  refine wpList_nil (hK50 _ _ ?_)
  refine wp_ret ?_
  refine ret_val (v := (Bo true)) (res_T rfl (slot rfl)) X46 ?_
  have x51 : (sameNd A_a A_b) = true := by first | with_reducible rfl | (simp only [sameNd, icmp, c29, c34, c39, c47]; done) | (simp [sameNd, icmp, c29, c34, c39, c47]; done) | (revert c29 c34 c39 c47; simp +contextual [sameNd, icmp]; done) | (rcases c29' with hh | hh <;> simp only [hh, sameNd, icmp, c29, c34, c39, c47]; done) | (rcases c34' with hh | hh <;> simp only [hh, sameNd, icmp, c29, c34, c39, c47]; done) | (rcases c39' with hh | hh <;> simp only [hh, sameNd, icmp, c29, c34, c39, c47]; done) | (rcases c47' with hh | hh <;> simp only [hh, sameNd, icmp, c29, c34, c39, c47]; done) | (rcases c47' with hh | hh <;> simp_all [sameNd, icmp]; done) | (rcases c47' with hh | hh | hh <;> simp_all [sameNd, icmp]; done) | (rcases c47' with hh | hh | hh | hh <;> simp_all [sameNd, icmp]; done) | (simp_all [sameNd, icmp]; done) | rfl
  exact (by first | with_reducible rfl | rw [x51] | rfl)

/- laws.eqNodeS -/
theorem c_laws_eqNodeS (a : Value) (L_a : List NodeT) (b : Value) (L_b : List NodeT) (w : World) (hv_a : Sl RNodeT 4 w a L_a) (hv_b : Sl RNodeT 4 w b L_b) : Gives Try.prog 28 #[a, b] w (fun v w' => v = (Bo (sameX sameNd L_a L_b))) := by
  have hlen_a := Sl.len hv_a; obtain ⟨p_a, q_a, rfl⟩ := Sl.shape hv_a
  have hlen_b := Sl.len hv_b; obtain ⟨p_b, q_b, rfl⟩ := Sl.shape hv_b
  refine enter [(.slice p_a L_a.length q_a), (.slice p_b L_b.length q_b), Ud, Ud, Ud, Ud, Ud, Ud, Ud, Ud, Ud, Ud, Ud, Ud, Ud, Ud, Ud, Ud, Ud, Ud, Ud, Ud, Ud, Ud, Ud, Ud, Ud] Try.func28 rfl Try.ntmps28 rfl ?_
  refine wp_seq_k fun K1 hK1 => ?_
  refine wp_region_lit ?_
  refine q_is rfl rfl (does_assign (u := (Bo false)) (ev rfl)) (by dsimp only [List.set]; try rfl) ?_
  refine wpList_nil (hK1 _ _ ?_)
  refine wp_seq_k fun K2 hK2 => ?_
  refine wp_seq_k fun K3 hK3 => ?_
  refine wp_region_lit ?_
  refine q_is rfl rfl (does_move (u := (.slice p_a L_a.length q_a)) (ev rfl)) (by dsimp only [List.set]; try rfl) ?_
  refine q_is rfl rfl (does_len_slice Try.underlying28 (ev rfl)) (by dsimp only [List.set]; try rfl) ?_
  refine q_is rfl rfl (does_move (u := (.slice p_b L_b.length q_b)) (ev rfl)) (by dsimp only [List.set]; try rfl) ?_
  refine q_is rfl rfl (does_len_slice Try.underlying28 (ev rfl)) (by dsimp only [List.set]; try rfl) ?_
  refine q_is rfl rfl (does_icmp (p := (L_a.length : Int)) (q := (L_b.length : Int)) (.inr (.inl rfl)) (ev rfl) (ev rfl)) (by dsimp only [List.set]; try rfl) ?_
  refine wpList_nil (hK3 _ _ ?_)
  refine wp_cond_split (t := icmp .neq (L_a.length : Int) (L_b.length : Int)) (ev rfl) (fun c4 => ?_) (fun c4 => ?_)
  · have c4' := c4
    (try simp only [icmp, Bool.and_eq_true, Bool.or_eq_true, Bool.and_eq_false_iff, Bool.or_eq_false_iff, Bool.not_eq_true', Bool.not_eq_false', decide_eq_true_eq, decide_eq_false_iff_not, beq_iff_eq, bne_iff_ne, beq_eq_false_iff_ne, bne_eq_false_iff_eq] at c4')
    refine wp_seq_k fun K5 hK5 => ?_
    refine wp_region_lit ?_
    refine q_is rfl rfl (does_assign (u := (Bo false)) (ev rfl)) (by dsimp only [List.set]; try rfl) ?_
    refine wpList_nil (hK5 _ _ ?_)
    refine wp_ret ?_
    dsimp only [Exit.then, Exit.inBlock]
    refine ret_val (v := (Bo false)) (res_T rfl (slot rfl)) (Ext.refl w) ?_
    have x6 : (sameX sameNd L_a L_b) = false := by first | exact (sameX_len (by omega)) | exact (sameX_not (by omega) (by assumption) (by assumption) (by simp_all)) | exact (sameX_all (by omega) (by omega) hs)
    exact (by first | with_reducible rfl | rw [x6] | rfl)
  have c4' := c4
  (try simp only [icmp, Bool.and_eq_true, Bool.or_eq_true, Bool.and_eq_false_iff, Bool.or_eq_false_iff, Bool.not_eq_true', Bool.not_eq_false', decide_eq_true_eq, decide_eq_false_iff_not, beq_iff_eq, bne_iff_ne, beq_eq_false_iff_ne, bne_eq_false_iff_eq] at c4')
  refine wp_skip (hK2 _ _ ?_)
  refine wp_seq_k fun K7 hK7 => ?_
  refine wp_seq_k fun K8 hK8 => ?_
  refine wp_region_lit ?_
  refine q_is rfl rfl (does_assign (u := (Iv 0)) (ev rfl)) (by dsimp only [List.set]; try rfl) ?_
  refine wpList_nil (hK8 _ _ ?_)
  refine wp_block ?_
  refine loop_ghost (σ := Nat) (fun k a w' => ∃ u9 : Nat → Value, a = fr [(.slice p_a L_a.length q_a), (.slice p_b L_b.length q_b), Ud, Ud, (u9 4), (Iv (k : Int)), (.slice p_a L_a.length q_a), (Iv (L_a.length : Int)), (.slice p_b L_b.length q_b), (Iv (L_b.length : Int)), (Bo (icmp .neq (L_a.length : Int) (L_b.length : Int))), (u9 11), (u9 12), (u9 13), (u9 14), (u9 15), (u9 16), (u9 17), (u9 18), (u9 19), (u9 20), (u9 21), (u9 22), (u9 23), (u9 24), (u9 25), (u9 26)] ∧ Ext w w' ∧ (k ≤ L_a.length ∧ SameXTo sameNd L_a L_b k)) (fun k => L_a.length - k) 0 ?_ ?_
  · refine ⟨fun t => (([(.slice p_a L_a.length q_a), (.slice p_b L_b.length q_b), Ud, Ud, (Bo false), (Iv 0), (.slice p_a L_a.length q_a), (Iv (L_a.length : Int)), (.slice p_b L_b.length q_b), (Iv (L_b.length : Int)), (Bo (icmp .neq (L_a.length : Int) (L_b.length : Int))), Ud, Ud, Ud, Ud, Ud, Ud, Ud, Ud, Ud, Ud, Ud, Ud, Ud, Ud, Ud, Ud] : List Value)[t]?).getD undef, rfl, Ext.refl _, ?_⟩
    exact ⟨Nat.zero_le _, SameXTo.zero⟩
  · rintro k a w10 ⟨u9, rfl, E11, ⟨hk, hs⟩⟩
    have X13 := Ext.gr (Ext.refl w) E11
    refine wp_seq_k fun K14 hK14 => ?_
    refine wp_seq_k fun K15 hK15 => ?_
    refine wp_region_lit ?_
    refine q_is rfl rfl (does_move (u := (Iv (k : Int))) (ev rfl)) (by dsimp only [List.set]; try rfl) ?_
    refine q_is rfl rfl (does_move (u := (.slice p_a L_a.length q_a)) (ev rfl)) (by dsimp only [List.set]; try rfl) ?_
    refine q_is rfl rfl (does_len_slice Try.underlying28 (ev rfl)) (by dsimp only [List.set]; try rfl) ?_
    refine q_is rfl rfl (does_icmp (p := (k : Int)) (q := (L_a.length : Int)) (.inr (.inr (.inl rfl))) (ev rfl) (ev rfl)) (by dsimp only [List.set]; try rfl) ?_
    refine wpList_nil (hK15 _ _ ?_)
    refine wp_cond_split (t := icmp .lss (k : Int) (L_a.length : Int)) (ev rfl) (fun c16 => ?_) (fun c16 => ?_)
    · have c16' := c16
      (try simp only [icmp, Bool.and_eq_true, Bool.or_eq_true, Bool.and_eq_false_iff, Bool.or_eq_false_iff, Bool.not_eq_true', Bool.not_eq_false', decide_eq_true_eq, decide_eq_false_iff_not, beq_iff_eq, bne_iff_ne, beq_eq_false_iff_ne, bne_eq_false_iff_eq] at c16')
      refine wp_skip (hK14 _ _ ?_)
      refine wp_seq_k fun K17 hK17 => ?_
      refine wp_block ?_
      refine wp_seq_k fun K18 hK18 => ?_
      obtain ⟨el1, hel1⟩ : ∃ e, L_a[k]? = some e := ⟨_, List.getElem?_eq_getElem (by omega)⟩
      obtain ⟨el2, hel2⟩ : ∃ e, L_b[k]? = some e := ⟨_, List.getElem?_eq_getElem (by omega)⟩
      refine region_draw (
        [Fact.pure [] (fun v => v = (.slice p_a L_a.length q_a)),
    Fact.pure [] (fun v => v = (Iv (k : Int))),
    Fact.mem [17, 18] (fun v w' => PtrR RNodeT w' v el1) (by intro v w1 w2 hx h; exact h.ext RNodeT.mono hx),
    Fact.mem [19] (fun v w' => ∃ cs_1 : List Value, v = (.agg cs_1.toArray) ∧ RNodeT w' el1 cs_1) (by rintro v w1 w2 hx ⟨z1, rfl, k0⟩; exact ⟨_, rfl, (RNodeT.mono _ _ _ _ hx k0)⟩),
    Fact.pure [] (fun v => v = (.slice p_b L_b.length q_b)),
    Fact.pure [] (fun v => v = (Iv (k : Int))),
    Fact.mem [21, 22] (fun v w' => PtrR RNodeT w' v el2) (by intro v w1 w2 hx h; exact h.ext RNodeT.mono hx),
    Fact.mem [23] (fun v w' => ∃ cs_1 : List Value, v = (.agg cs_1.toArray) ∧ RNodeT w' el2 cs_1) (by rintro v w1 w2 hx ⟨z1, rfl, k0⟩; exact ⟨_, rfl, (RNodeT.mono _ _ _ _ hx k0)⟩),
    Fact.pure [20, 24] (fun v => v = (Bo (sameNd el1 el2))),
    Fact.pure [25] (fun v => v = (Bo (!(sameNd el1 el2))))]) mixed (by kernel_rfl) (by intro _ _ d _ _ h; cases d <;> exact h) ?_
      obtain ⟨w19, hw21⟩ : ∃ w', w' = World.drew w10 := ⟨_, rfl⟩; rw [← hw21]; have E20 : Ext w10 w19 := by rw [hw21]; exact Ext.draw _
      clear hw21
      have X22 := Ext.gr X13 E20
      refine RW_d _ rfl (fun v => by dsimp only [List.set]; try rfl) (fun u hu hF => ?_) (fun v23 => ?_)
      · clear hF
        refine doesG_un rfl ?_
        refine (does_move (u := (.slice p_a L_a.length q_a)) (ev rfl)).mono ?_; rintro _ _ ⟨rfl, rfl⟩
        exact ⟨rfl, Ext.refl _⟩
      refine RW_d _ rfl (fun v => by dsimp only [List.set]; try rfl) (fun u hu hF => ?_) (fun v24 => ?_)
      · clear hF
        refine doesG_un rfl ?_
        refine (does_move (u := (Iv (k : Int))) (ev rfl)).mono ?_; rintro _ _ ⟨rfl, rfl⟩
        exact ⟨rfl, Ext.refl _⟩
      refine RW_d _ rfl (fun v => by dsimp only [List.set]; try rfl) (fun u hu hF => ?_) (fun v25 => ?_)
      · have h17_ : v23 = (.slice p_a L_a.length q_a) := hF.1
        have h18_ : v24 = (Iv (k : Int)) := hF.2.1
        clear hF
        refine doesG_un rfl ?_
        obtain rfl := h17_
        obtain rfl := h18_
        refine (does_indexSl (R := RNodeT) (i := (k : Int)) (xs := L_a) (e := el1) Try.underlying28 Try.sizeOf102 (ev rfl) (ev rfl) (Sl.ext (Sl.ext hv_a RNodeT.mono (Ext.gr X13 E20)) RNodeT.mono hu) (by omega) hel1).mono ?_; rintro v u' ⟨b, of, cs, hv, hc, hR, hu'⟩; subst hu'
        exact ⟨⟨b, of, cs, hv, hc, hR⟩, Ext.refl _⟩
      refine RW_d _ rfl (fun v => by dsimp only [List.set]; try rfl) (fun u hu hF => ?_) (fun v26 => ?_)
      · have h19_ : PtrR RNodeT u v25 el1 := hF.1
        clear hF
        refine doesG_un rfl ?_
        obtain ⟨b19_, o19_, _, rfl, hc19_, ⟨y19_1, rfl, h19_2⟩⟩ := h19_
        have hh19_2 := h19_2; obtain ⟨p19_3, q19_4, rfl⟩ := Sl.shape h19_2
        refine (does_loadAgg (cs := [(Iv el1.kind), (Iv el1.a), (Iv el1.b), (.slice p19_3 el1.nums.length q19_4)]) (ev rfl) Try.isAgg102 Try.sizeOf102 hc19_ rfl).mono ?_; rintro _ _ ⟨rfl, rfl⟩
        exact ⟨⟨[(Iv el1.kind), (Iv el1.a), (Iv el1.b), (.slice p19_3 el1.nums.length q19_4)], rfl, ⟨(.slice p19_3 el1.nums.length q19_4), rfl, (by assumption)⟩⟩, Ext.refl _⟩
      refine RW_d _ rfl (fun v => by dsimp only [List.set]; try rfl) (fun u hu hF => ?_) (fun v27 => ?_)
      · clear hF
        refine doesG_un rfl ?_
        refine (does_move (u := (.slice p_b L_b.length q_b)) (ev rfl)).mono ?_; rintro _ _ ⟨rfl, rfl⟩
        exact ⟨rfl, Ext.refl _⟩
      refine RW_d _ rfl (fun v => by dsimp only [List.set]; try rfl) (fun u hu hF => ?_) (fun v28 => ?_)
      · clear hF
        refine doesG_un rfl ?_
        refine (does_move (u := (Iv (k : Int))) (ev rfl)).mono ?_; rintro _ _ ⟨rfl, rfl⟩
        exact ⟨rfl, Ext.refl _⟩
      refine RW_d _ rfl (fun v => by dsimp only [List.set]; try rfl) (fun u hu hF => ?_) (fun v29 => ?_)
      · have h21_ : v27 = (.slice p_b L_b.length q_b) := hF.1
        have h22_ : v28 = (Iv (k : Int)) := hF.2.1
        clear hF
        refine doesG_un rfl ?_
        obtain rfl := h21_
        obtain rfl := h22_
        refine (does_indexSl (R := RNodeT) (i := (k : Int)) (xs := L_b) (e := el2) Try.underlying28 Try.sizeOf102 (ev rfl) (ev rfl) (Sl.ext (Sl.ext hv_b RNodeT.mono (Ext.gr X13 E20)) RNodeT.mono hu) (by omega) hel2).mono ?_; rintro v u' ⟨b, of, cs, hv, hc, hR, hu'⟩; subst hu'
        exact ⟨⟨b, of, cs, hv, hc, hR⟩, Ext.refl _⟩
      refine RW_d _ rfl (fun v => by dsimp only [List.set]; try rfl) (fun u hu hF => ?_) (fun v30 => ?_)
      · have h23_ : PtrR RNodeT u v29 el2 := hF.1
        clear hF
        refine doesG_un rfl ?_
        obtain ⟨b23_, o23_, _, rfl, hc23_, ⟨y23_1, rfl, h23_2⟩⟩ := h23_
        have hh23_2 := h23_2; obtain ⟨p23_3, q23_4, rfl⟩ := Sl.shape h23_2
        refine (does_loadAgg (cs := [(Iv el2.kind), (Iv el2.a), (Iv el2.b), (.slice p23_3 el2.nums.length q23_4)]) (ev rfl) Try.isAgg102 Try.sizeOf102 hc23_ rfl).mono ?_; rintro _ _ ⟨rfl, rfl⟩
        exact ⟨⟨[(Iv el2.kind), (Iv el2.a), (Iv el2.b), (.slice p23_3 el2.nums.length q23_4)], rfl, ⟨(.slice p23_3 el2.nums.length q23_4), rfl, (by assumption)⟩⟩, Ext.refl _⟩
      refine RW_d _ rfl (fun v => by dsimp only [List.set]; try rfl) (fun u hu hF => ?_) (fun v31 => ?_)
      · have h20_ : ∃ cs_1 : List Value, v26 = (.agg cs_1.toArray) ∧ RNodeT u el1 cs_1 := hF.1
        have h24_ : ∃ cs_1 : List Value, v30 = (.agg cs_1.toArray) ∧ RNodeT u el2 cs_1 := hF.2.1
        clear hF
        refine doesG_un rfl ?_
        obtain ⟨_, rfl, ⟨y20_1, rfl, h20_2⟩⟩ := h20_
        have hh20_2 := h20_2; obtain ⟨p20_3, q20_4, rfl⟩ := Sl.shape h20_2
        obtain ⟨_, rfl, ⟨y24_1, rfl, h24_2⟩⟩ := h24_
        have hh24_2 := h24_2; obtain ⟨p24_3, q24_4, rfl⟩ := Sl.shape h24_2
        refine (does_call (args := #[(.agg #[(Iv el1.kind), (Iv el1.a), (Iv el1.b), (.slice p20_3 el1.nums.length q20_4)]), (.agg #[(Iv el2.kind), (Iv el2.a), (Iv el2.b), (.slice p24_3 el2.nums.length q24_4)])]) cal63 (evs rfl) (c_laws_eqNode [(Iv el1.kind), (Iv el1.a), (Iv el1.b), (.slice p20_3 el1.nums.length q20_4)] el1 [(Iv el2.kind), (Iv el2.a), (Iv el2.b), (.slice p24_3 el2.nums.length q24_4)] el2 _ ⟨(.slice p20_3 el1.nums.length q20_4), rfl, hh20_2⟩ ⟨(.slice p24_3 el2.nums.length q24_4), rfl, hh24_2⟩)).mono ?_; rintro v u' ⟨hx, hv⟩
        exact ⟨hv, hx⟩
      refine RW_d _ rfl (fun v => by dsimp only [List.set]; try rfl) (fun u hu hF => ?_) (fun v32 => ?_)
      · have h25_ : v31 = (Bo (sameNd el1 el2)) := hF.1
        clear hF
        refine doesG_un rfl ?_
        obtain rfl := h25_
        refine (does_not (ev rfl)).mono ?_; rintro _ _ ⟨rfl, rfl⟩
        exact ⟨rfl, Ext.refl _⟩
      refine RW_fin ?_; intro w33 E34 hP35
      obtain ⟨⟨⟨⟨⟨⟨⟨⟨⟨⟨-, -⟩, -⟩, -⟩, -⟩, -⟩, -⟩, -⟩, -⟩, -⟩, q36⟩ := hP35
      have X37 := Ext.gr X22 E34
      have q36 : v32 = (Bo (!(sameNd el1 el2))) := q36
      obtain rfl := q36
      show wpList _ _ _ _ (fr [_, _, _, _, _, _, _, _, _, _, _, _, _, _, _, _, _, _, _, _, _, _, _, _, _, _, _]) _
      refine wpList_nil (hK18 _ _ ?_)
      refine wp_cond_split (t := !(sameNd el1 el2)) (ev rfl) (fun c38 => ?_) (fun c38 => ?_)
      · rw [Bool.not_eq_true'] at c38
        have c38' := c38
        refine wp_seq_k fun K39 hK39 => ?_
        refine wp_region_lit ?_
        refine q_is rfl rfl (does_assign (u := (Bo false)) (ev rfl)) (by dsimp only [List.set]; try rfl) ?_
        refine wpList_nil (hK39 _ _ ?_)
        refine wp_ret ?_
        dsimp only [Exit.then, Exit.inBlock]
        refine ret_val (v := (Bo false)) (res_T rfl (slot rfl)) X37 ?_
        try simp only [hel1, hel2] at c4 c16 c38
        have x40 : (sameX sameNd L_a L_b) = false := by first | exact (sameX_len (by omega)) | exact (sameX_not (by omega) (by assumption) (by assumption) (by simp_all)) | exact (sameX_all (by omega) (by omega) hs)
        exact (by first | with_reducible rfl | rw [x40] | rfl)
      rw [Bool.not_eq_false'] at c38
      have c38' := c38
      refine wp_skip (hK17 _ _ ?_)
      refine wp_region_lit ?_
      refine q_is rfl rfl (does_move (u := (Iv (k : Int))) (ev rfl)) (by dsimp only [List.set]; try rfl) ?_
      refine q_is rfl rfl (does_iarith (p := (k : Int)) (q := 1) (r := (k : Int) + 1) (ev rfl) (ev rfl) (.inl ⟨rfl, (in_i64 (by omega) (by omega)).symm⟩)) (by dsimp only [List.set]; try rfl) ?_
      refine q_is rfl rfl (does_assign (u := (Iv ((k : Int) + 1))) (ev rfl)) (by dsimp only [List.set]; try rfl) ?_
      refine wpList_nil ?_
      refine ⟨k + 1, ⟨fun t => (([(.slice p_a L_a.length q_a), (.slice p_b L_b.length q_b), Ud, Ud, (u9 4), (Iv ((k : Int) + 1)), (.slice p_a L_a.length q_a), (Iv (L_a.length : Int)), (.slice p_b L_b.length q_b), (Iv (L_b.length : Int)), (Bo (icmp .neq (L_a.length : Int) (L_b.length : Int))), (Iv (k : Int)), (.slice p_a L_a.length q_a), (Iv (L_a.length : Int)), (Bo (icmp .lss (k : Int) (L_a.length : Int))), (Iv (k : Int)), (Iv ((k : Int) + 1)), v23, v24, v25, v26, v27, v28, v29, v30, v31, (Bo (!(sameNd el1 el2)))] : List Value)[t]?).getD undef, ?_, (Ext.gr (Ext.gr E11 E20) E34), ?_⟩, ?_⟩
      · first | rfl | (simp only [Nat.cast_add, Nat.cast_one, Int.natCast_add, Int.natCast_one]; rfl)
      · exact ⟨by omega, SameXTo.step hs (by assumption) (by assumption) (by simp_all)⟩
      · omega
    have c16' := c16
    (try simp only [icmp, Bool.and_eq_true, Bool.or_eq_true, Bool.and_eq_false_iff, Bool.or_eq_false_iff, Bool.not_eq_true', Bool.not_eq_false', decide_eq_true_eq, decide_eq_false_iff_not, beq_iff_eq, bne_iff_ne, beq_eq_false_iff_ne, bne_eq_false_iff_eq] at c16')
    refine wp_exit ?_
    refine hK7 _ _ ?_
    refine wp_seq_k fun K41 hK41 => ?_
    refine wp_region_lit ?_
    refine q_is rfl rfl (does_assign (u := (Bo true)) (ev rfl)) (by dsimp only [List.set]; try rfl) ?_
    refine wpList_nil (hK41 _ _ ?_)
    refine wp_ret ?_
    refine ret_val (v := (Bo true)) (res_T rfl (slot rfl)) X13 ?_
    have x42 : (sameX sameNd L_a L_b) = true := by first | exact (sameX_len (by omega)) | exact (sameX_not (by omega) (by assumption) (by assumption) (by simp_all)) | exact (sameX_all (by omega) (by omega) hs)
    exact (by first | with_reducible rfl | rw [x42] | rfl)

/- laws.eqShape -/
theorem c_laws_eqShape (a : List Value) (A_a : ShapeT) (b : List Value) (A_b : ShapeT) (w : World) (hv_a : RShapeT w A_a a) (hv_b : RShapeT w A_b b) : Gives Try.prog 10 #[(.agg a.toArray), (.agg b.toArray)] w (fun v w' => v = (Bo (sameShp A_a A_b))) := by
  obtain ⟨y1, rfl, h2⟩ := hv_a
  obtain ⟨y3, rfl, h4⟩ := hv_b
  have hs7 := h2; have hs7l := Sl.len h2; obtain ⟨p5, q6, rfl⟩ := Sl.shape h2
  have hs10 := h4; have hs10l := Sl.len h4; obtain ⟨p8, q9, rfl⟩ := Sl.shape h4
  refine enter [(.agg #[(.slice p5 A_a.nodes.length q6)]), (.agg #[(.slice p8 A_b.nodes.length q9)]), Ud, Ud, Ud, Ud, Ud, Ud, Ud, Ud, Ud] Try.func10 rfl Try.ntmps10 rfl ?_
  refine wp_seq_k fun K11 hK11 => ?_
  refine wp_region_lit ?_
  refine seqd rfl rfl (does_box (u := (.agg #[(.slice p5 A_a.nodes.length q6)])) (ev rfl)) ?_; rintro _ w16 ⟨b12, rfl, hb13, hB14, E15⟩
  have g17 : w.heap.size ≤ b12 := Nat.le_trans (Below.size (Ext.refl w)) hb13
  change Blk _ _ [(.slice p5 A_a.nodes.length q6)] at hB14
  have X18 := Ext.gr (Ext.refl w) E15
  show wpList _ _ _ _ (fr [(.agg #[(.slice p5 A_a.nodes.length q6)]), (.agg #[(.slice p8 A_b.nodes.length q9)]), (Pt b12 0), Ud, Ud, Ud, Ud, Ud, Ud, Ud, Ud]) _
  refine seqd rfl rfl (does_box (u := (.agg #[(.slice p8 A_b.nodes.length q9)])) (ev rfl)) ?_; rintro _ w23 ⟨b19, rfl, hb20, hB21, E22⟩
  have n24 : b12 < b19 := Nat.lt_of_lt_of_le (Blk.lt hB14) hb20
  have g25 : w.heap.size ≤ b19 := Nat.le_trans (Below.size X18) hb20
  change Blk _ _ [(.slice p8 A_b.nodes.length q9)] at hB21
  have X26 := Ext.gr X18 E22
  show wpList _ _ _ _ (fr [(.agg #[(.slice p5 A_a.nodes.length q6)]), (.agg #[(.slice p8 A_b.nodes.length q9)]), (Pt b12 0), (Pt b19 0), Ud, Ud, Ud, Ud, Ud, Ud, Ud]) _
  refine q_is (l' := [(.agg #[(.slice p5 A_a.nodes.length q6)]), (.agg #[(.slice p8 A_b.nodes.length q9)]), (Pt b12 0), (Pt b19 0), (Bo false), Ud, Ud, Ud, Ud, Ud, Ud]) rfl rfl (does_assign (u := (Bo false)) (ev rfl)) rfl ?_
  refine wpList_nil (hK11 _ _ ?_)
  refine wp_seq_k fun K27 hK27 => ?_
  refine wp_seq_k fun K28 hK28 => ?_
  refine wp_region_lit ?_
  refine q_is (l' := [(.agg #[(.slice p5 A_a.nodes.length q6)]), (.agg #[(.slice p8 A_b.nodes.length q9)]), (Pt b12 0), (Pt b19 0), (Bo false), (Pt b12 0), Ud, Ud, Ud, Ud, Ud]) rfl rfl (does_fieldAddr (ev rfl) fa30_0) rfl ?_
  refine q_is (l' := [(.agg #[(.slice p5 A_a.nodes.length q6)]), (.agg #[(.slice p8 A_b.nodes.length q9)]), (Pt b12 0), (Pt b19 0), (Bo false), (Pt b12 0), (.slice p5 A_a.nodes.length q6), Ud, Ud, Ud, Ud]) rfl rfl (does_load (u := (.slice p5 A_a.nodes.length q6)) (ev rfl) Try.isAgg28 (Cells.at (Blk.cells (hB14.ext E22)) 0 rfl)) rfl ?_
  refine q_is (l' := [(.agg #[(.slice p5 A_a.nodes.length q6)]), (.agg #[(.slice p8 A_b.nodes.length q9)]), (Pt b12 0), (Pt b19 0), (Bo false), (Pt b12 0), (.slice p5 A_a.nodes.length q6), (Pt b19 0), Ud, Ud, Ud]) rfl rfl (does_fieldAddr (ev rfl) fa30_0) rfl ?_
  refine q_is (l' := [(.agg #[(.slice p5 A_a.nodes.length q6)]), (.agg #[(.slice p8 A_b.nodes.length q9)]), (Pt b12 0), (Pt b19 0), (Bo false), (Pt b12 0), (.slice p5 A_a.nodes.length q6), (Pt b19 0), (.slice p8 A_b.nodes.length q9), Ud, Ud]) rfl rfl (does_load (u := (.slice p8 A_b.nodes.length q9)) (ev rfl) Try.isAgg28 (Cells.at (Blk.cells hB21) 0 rfl)) rfl ?_
  refine seqd rfl rfl (does_call (args := #[(.slice p5 A_a.nodes.length q6), (.slice p8 A_b.nodes.length q9)]) cal28 (evs rfl) (c_laws_eqNodeS (.slice p5 A_a.nodes.length q6) A_a.nodes (.slice p8 A_b.nodes.length q9) A_b.nodes _ (Sl.ext hs7 RNodeT.mono X26) (Sl.ext hs10 RNodeT.mono X26))) ?_; rintro _ w30 ⟨E29, rfl⟩
  have X31 := Ext.gr X26 E29
  show wpList _ _ _ _ (fr [(.agg #[(.slice p5 A_a.nodes.length q6)]), (.agg #[(.slice p8 A_b.nodes.length q9)]), (Pt b12 0), (Pt b19 0), (Bo false), (Pt b12 0), (.slice p5 A_a.nodes.length q6), (Pt b19 0), (.slice p8 A_b.nodes.length q9), (Bo (sameX sameNd A_a.nodes A_b.nodes)), Ud]) _
  refine q_is (l' := [(.agg #[(.slice p5 A_a.nodes.length q6)]), (.agg #[(.slice p8 A_b.nodes.length q9)]), (Pt b12 0), (Pt b19 0), (Bo false), (Pt b12 0), (.slice p5 A_a.nodes.length q6), (Pt b19 0), (.slice p8 A_b.nodes.length q9), (Bo (sameX sameNd A_a.nodes A_b.nodes)), (Bo (!(sameX sameNd A_a.nodes A_b.nodes)))]) rfl rfl (does_not (ev rfl)) rfl ?_
  refine wpList_nil (hK28 _ _ ?_)
  refine wp_cond_split (t := !(sameX sameNd A_a.nodes A_b.nodes)) (ev rfl) (fun c32 => ?_) (fun c32 => ?_)
  · rw [Bool.not_eq_true'] at c32
    have c32' := c32
    refine wp_seq_k fun K33 hK33 => ?_
    refine wp_region_lit ?_
    refine q_is (l' := [(.agg #[(.slice p5 A_a.nodes.length q6)]), (.agg #[(.slice p8 A_b.nodes.length q9)]), (Pt b12 0), (Pt b19 0), (Bo false), (Pt b12 0), (.slice p5 A_a.nodes.length q6), (Pt b19 0), (.slice p8 A_b.nodes.length q9), (Bo (sameX sameNd A_a.nodes A_b.nodes)), (Bo (!(sameX sameNd A_a.nodes A_b.nodes)))]) rfl rfl (does_assign (u := (Bo false)) (ev rfl)) rfl ?_
    refine wpList_nil (hK33 _ _ ?_)
    refine wp_ret ?_
    dsimp only [Exit.then, Exit.inBlock]
    refine ret_val (v := (Bo false)) (res_T rfl (slot rfl)) X31 ?_
    have x34 : (sameShp A_a A_b) = false := by first | with_reducible rfl | (simp only [sameShp, c32]; done) | (simp [sameShp, c32]; done) | (revert c32; simp +contextual [sameShp]; done) | (rcases c32' with hh | hh <;> simp only [hh, sameShp, c32]; done) | (rcases c32' with hh | hh <;> simp_all [sameShp]; done) | (rcases c32' with hh | hh | hh <;> simp_all [sameShp]; done) | (rcases c32' with hh | hh | hh | hh <;> simp_all [sameShp]; done) | (simp_all [sameShp]; done) | rfl
    exact (by first | with_reducible rfl | rw [x34] | rfl)
  rw [Bool.not_eq_false'] at c32
  have c32' := c32
  refine wp_skip (hK27 _ _ ?_)
  refine wp_seq_k fun K35 hK35 => ?_
  refine wp_region_lit ?_
  refine q_is (l' := [(.agg #[(.slice p5 A_a.nodes.length q6)]), (.agg #[(.slice p8 A_b.nodes.length q9)]), (Pt b12 0), (Pt b19 0), (Bo true), (Pt b12 0), (.slice p5 A_a.nodes.length q6), (Pt b19 0), (.slice p8 A_b.nodes.length q9), (Bo (sameX sameNd A_a.nodes A_b.nodes)), (Bo (!(sameX sameNd A_a.nodes A_b.nodes)))]) rfl rfl (does_assign (u := (Bo true)) (ev rfl)) rfl ?_
  refine wpList_nil (hK35 _ _ ?_)
  refine wp_ret ?_
  refine ret_val (v := (Bo true)) (res_T rfl (slot rfl)) X31 ?_
  have x36 : (sameShp A_a A_b) = true := by first | with_reducible rfl | (simp only [sameShp, c32]; done) | (simp [sameShp, c32]; done) | (revert c32; simp +contextual [sameShp]; done) | (rcases c32' with hh | hh <;> simp only [hh, sameShp, c32]; done) | (rcases c32' with hh | hh <;> simp_all [sameShp]; done) | (rcases c32' with hh | hh | hh <;> simp_all [sameShp]; done) | (rcases c32' with hh | hh | hh | hh <;> simp_all [sameShp]; done) | (simp_all [sameShp]; done) | rfl
  exact (by first | with_reducible rfl | rw [x36] | rfl)

/- laws.eqVector -/
theorem c_laws_eqVector (a : List Value) (A_a : V3) (b : List Value) (A_b : V3) (w : World) (hv_a : RV3 w A_a a) (hv_b : RV3 w A_b b) : Gives Try.prog 15 #[(.agg a.toArray), (.agg b.toArray)] w (fun v w' => v = (Bo (sameV A_a A_b))) := by
  obtain ⟨r1, r3, r5, rfl, h2, h4, h6⟩ := hv_a
  obtain ⟨r7, r9, r11, rfl, h8, h10, h12⟩ := hv_b
  refine enter [(.agg #[(Fl r1), (Fl r3), (Fl r5)]), (.agg #[(Fl r7), (Fl r9), (Fl r11)]), Ud, Ud, Ud, Ud, Ud, Ud, Ud, Ud, Ud, Ud, Ud, Ud, Ud, Ud, Ud, Ud, Ud, Ud, Ud, Ud, Ud, Ud, Ud, Ud, Ud, Ud, Ud] Try.func15 rfl Try.ntmps15 rfl ?_
  refine wp_seq_k fun K13 hK13 => ?_
  refine wp_region_lit ?_
  refine seqd rfl rfl (does_box (u := (.agg #[(Fl r1), (Fl r3), (Fl r5)])) (ev rfl)) ?_; rintro _ w18 ⟨b14, rfl, hb15, hB16, E17⟩
  have g19 : w.heap.size ≤ b14 := Nat.le_trans (Below.size (Ext.refl w)) hb15
  change Blk _ _ [(Fl r1), (Fl r3), (Fl r5)] at hB16
  have X20 := Ext.gr (Ext.refl w) E17
  show wpList _ _ _ _ (fr [_, _, _, _, _, _, _, _, _, _, _, _, _, _, _, _, _, _, _, _, _, _, _, _, _, _, _, _, _]) _
  refine seqd rfl rfl (does_box (u := (.agg #[(Fl r7), (Fl r9), (Fl r11)])) (ev rfl)) ?_; rintro _ w25 ⟨b21, rfl, hb22, hB23, E24⟩
  have n26 : b14 < b21 := Nat.lt_of_lt_of_le (Blk.lt hB16) hb22
  have g27 : w.heap.size ≤ b21 := Nat.le_trans (Below.size X20) hb22
  change Blk _ _ [(Fl r7), (Fl r9), (Fl r11)] at hB23
  have X28 := Ext.gr X20 E24
  show wpList _ _ _ _ (fr [_, _, _, _, _, _, _, _, _, _, _, _, _, _, _, _, _, _, _, _, _, _, _, _, _, _, _, _, _]) _
  refine q_is rfl rfl (does_assign (u := (Bo false)) (ev rfl)) (by dsimp only [List.set]; try rfl) ?_
  refine wpList_nil (hK13 _ _ ?_)
  refine wp_seq_k fun K29 hK29 => ?_
  refine wp_seq_k fun K30 hK30 => ?_
  refine wp_region_lit ?_
  refine q_is rfl rfl (does_fieldAddr (ev rfl) fa40_0) (by dsimp only [List.set]; try rfl) ?_
  refine q_is rfl rfl (does_load (u := (Fl r1)) (ev rfl) Try.isAgg38 (Cells.at (Blk.cells (hB16.ext E24)) 0 rfl)) (by dsimp only [List.set]; try rfl) ?_
  refine seqd rfl rfl (does_widen Try.underlying38 Try.underlying84 (ev rfl)) ?_; rintro _ w34 ⟨r31, rfl, h32, E33⟩
  have X35 := Ext.gr X28 E33
  show wpList _ _ _ _ (fr [_, _, _, _, _, _, _, _, _, _, _, _, _, _, _, _, _, _, _, _, _, _, _, _, _, _, _, _, _]) _
  refine q_is rfl rfl (does_fieldAddr (ev rfl) fa40_0) (by dsimp only [List.set]; try rfl) ?_
  refine q_is rfl rfl (does_load (u := (Fl r7)) (ev rfl) Try.isAgg38 (Cells.at (Blk.cells (hB23.ext E33)) 0 rfl)) (by dsimp only [List.set]; try rfl) ?_
  refine seqd rfl rfl (does_widen Try.underlying38 Try.underlying84 (ev rfl)) ?_; rintro _ w39 ⟨r36, rfl, h37, E38⟩
  have X40 := Ext.gr X35 E38
  show wpList _ _ _ _ (fr [_, _, _, _, _, _, _, _, _, _, _, _, _, _, _, _, _, _, _, _, _, _, _, _, _, _, _, _, _]) _
  refine seqd rfl rfl (does_call (args := #[(Fd r31), (Fd r36)]) cal37 (evs rfl) (c_laws_sameFloat r31 r36 _)) ?_; rintro _ w42 ⟨E41, rfl⟩
  have X43 := Ext.gr X40 E41
  show wpList _ _ _ _ (fr [_, _, _, _, _, _, _, _, _, _, _, _, _, _, _, _, _, _, _, _, _, _, _, _, _, _, _, _, _]) _
  refine q_is rfl rfl (does_not (ev rfl)) (by dsimp only [List.set]; try rfl) ?_
  refine wpList_nil (hK30 _ _ ?_)
  refine wp_cond_split (t := !(sameF (cf .f64 r31) (cf .f64 r36))) (ev rfl) (fun c44 => ?_) (fun c44 => ?_)
  · rw [Bool.not_eq_true'] at c44
    have c44' := c44
    refine wp_seq_k fun K45 hK45 => ?_
    refine wp_region_lit ?_
    refine q_is rfl rfl (does_assign (u := (Bo false)) (ev rfl)) (by dsimp only [List.set]; try rfl) ?_
    refine wpList_nil (hK45 _ _ ?_)
    refine wp_ret ?_
    dsimp only [Exit.then, Exit.inBlock]
    refine ret_val (v := (Bo false)) (res_T rfl (slot rfl)) X43 ?_
    try simp only [h2, h4, h6, h8, h10, h12, h32, h37] at c44
    have x46 : (sameV A_a A_b) = false := by first | with_reducible rfl | (simp only [sameV, h2, h4, h6, h8, h10, h12, h32, h37, c44]; done) | (simp [sameV, h2, h4, h6, h8, h10, h12, h32, h37, c44]; done) | (revert c44; simp +contextual [sameV, h2, h4, h6, h8, h10, h12, h32, h37]; done) | (rcases c44' with hh | hh <;> simp only [hh, sameV, h2, h4, h6, h8, h10, h12, h32, h37, c44]; done) | (rcases c44' with hh | hh <;> simp_all [sameV]; done) | (rcases c44' with hh | hh | hh <;> simp_all [sameV]; done) | (rcases c44' with hh | hh | hh | hh <;> simp_all [sameV]; done) | (simp_all [sameV]; done) | rfl
    exact (by first | with_reducible rfl | rw [x46] | rfl)
  rw [Bool.not_eq_false'] at c44
  have c44' := c44
  refine wp_skip (hK29 _ _ ?_)
  refine wp_seq_k fun K47 hK47 => ?_
  refine wp_seq_k fun K48 hK48 => ?_
  refine wp_region_lit ?_
  refine q_is rfl rfl (does_fieldAddr (ev rfl) fa40_1) (by dsimp only [List.set]; try rfl) ?_
  refine q_is rfl rfl (does_load (u := (Fl r3)) (ev rfl) Try.isAgg38 (Cells.at (Blk.cells ((((hB16.ext E24).ext E33).ext E38).ext E41)) 1 rfl)) (by dsimp only [List.set]; try rfl) ?_
  refine seqd rfl rfl (does_widen Try.underlying38 Try.underlying84 (ev rfl)) ?_; rintro _ w52 ⟨r49, rfl, h50, E51⟩
  have X53 := Ext.gr X43 E51
  show wpList _ _ _ _ (fr [_, _, _, _, _, _, _, _, _, _, _, _, _, _, _, _, _, _, _, _, _, _, _, _, _, _, _, _, _]) _
  refine q_is rfl rfl (does_fieldAddr (ev rfl) fa40_1) (by dsimp only [List.set]; try rfl) ?_
  refine q_is rfl rfl (does_load (u := (Fl r9)) (ev rfl) Try.isAgg38 (Cells.at (Blk.cells ((((hB23.ext E33).ext E38).ext E41).ext E51)) 1 rfl)) (by dsimp only [List.set]; try rfl) ?_
  refine seqd rfl rfl (does_widen Try.underlying38 Try.underlying84 (ev rfl)) ?_; rintro _ w57 ⟨r54, rfl, h55, E56⟩
  have X58 := Ext.gr X53 E56
  show wpList _ _ _ _ (fr [_, _, _, _, _, _, _, _, _, _, _, _, _, _, _, _, _, _, _, _, _, _, _, _, _, _, _, _, _]) _
  refine seqd rfl rfl (does_call (args := #[(Fd r49), (Fd r54)]) cal37 (evs rfl) (c_laws_sameFloat r49 r54 _)) ?_; rintro _ w60 ⟨E59, rfl⟩
  have X61 := Ext.gr X58 E59
  show wpList _ _ _ _ (fr [_, _, _, _, _, _, _, _, _, _, _, _, _, _, _, _, _, _, _, _, _, _, _, _, _, _, _, _, _]) _
  refine q_is rfl rfl (does_not (ev rfl)) (by dsimp only [List.set]; try rfl) ?_
  refine wpList_nil (hK48 _ _ ?_)
  refine wp_cond_split (t := !(sameF (cf .f64 r49) (cf .f64 r54))) (ev rfl) (fun c62 => ?_) (fun c62 => ?_)
  · rw [Bool.not_eq_true'] at c62
    have c62' := c62
    refine wp_seq_k fun K63 hK63 => ?_
    refine wp_region_lit ?_
    refine q_is rfl rfl (does_assign (u := (Bo false)) (ev rfl)) (by dsimp only [List.set]; try rfl) ?_
    refine wpList_nil (hK63 _ _ ?_)
    refine wp_ret ?_
    dsimp only [Exit.then, Exit.inBlock]
    refine ret_val (v := (Bo false)) (res_T rfl (slot rfl)) X61 ?_
    try simp only [h2, h4, h6, h8, h10, h12, h32, h37, h50, h55] at c44 c62
    have x64 : (sameV A_a A_b) = false := by first | with_reducible rfl | (simp only [sameV, h2, h4, h6, h8, h10, h12, h32, h37, h50, h55, c44, c62]; done) | (simp [sameV, h2, h4, h6, h8, h10, h12, h32, h37, h50, h55, c44, c62]; done) | (revert c44 c62; simp +contextual [sameV, h2, h4, h6, h8, h10, h12, h32, h37, h50, h55]; done) | (rcases c44' with hh | hh <;> simp only [hh, sameV, h2, h4, h6, h8, h10, h12, h32, h37, h50, h55, c44, c62]; done) | (rcases c62' with hh | hh <;> simp only [hh, sameV, h2, h4, h6, h8, h10, h12, h32, h37, h50, h55, c44, c62]; done) | (rcases c62' with hh | hh <;> simp_all [sameV]; done) | (rcases c62' with hh | hh | hh <;> simp_all [sameV]; done) | (rcases c62' with hh | hh | hh | hh <;> simp_all [sameV]; done) | (simp_all [sameV]; done) | rfl
    exact (by first | with_reducible rfl | rw [x64] | rfl)
  rw [Bool.not_eq_false'] at c62
  have c62' := c62
  refine wp_skip (hK47 _ _ ?_)
  refine wp_seq_k fun K65 hK65 => ?_
  refine wp_seq_k fun K66 hK66 => ?_
  refine wp_region_lit ?_
  refine q_is rfl rfl (does_fieldAddr (ev rfl) fa40_2) (by dsimp only [List.set]; try rfl) ?_
  refine q_is rfl rfl (does_load (u := (Fl r5)) (ev rfl) Try.isAgg38 (Cells.at (Blk.cells (((((((hB16.ext E24).ext E33).ext E38).ext E41).ext E51).ext E56).ext E59)) 2 rfl)) (by dsimp only [List.set]; try rfl) ?_
  refine seqd rfl rfl (does_widen Try.underlying38 Try.underlying84 (ev rfl)) ?_; rintro _ w70 ⟨r67, rfl, h68, E69⟩
  have X71 := Ext.gr X61 E69
  show wpList _ _ _ _ (fr [_, _, _, _, _, _, _, _, _, _, _, _, _, _, _, _, _, _, _, _, _, _, _, _, _, _, _, _, _]) _
  refine q_is rfl rfl (does_fieldAddr (ev rfl) fa40_2) (by dsimp only [List.set]; try rfl) ?_
  refine q_is rfl rfl (does_load (u := (Fl r11)) (ev rfl) Try.isAgg38 (Cells.at (Blk.cells (((((((hB23.ext E33).ext E38).ext E41).ext E51).ext E56).ext E59).ext E69)) 2 rfl)) (by dsimp only [List.set]; try rfl) ?_
  refine seqd rfl rfl (does_widen Try.underlying38 Try.underlying84 (ev rfl)) ?_; rintro _ w75 ⟨r72, rfl, h73, E74⟩
  have X76 := Ext.gr X71 E74
  show wpList _ _ _ _ (fr [_, _, _, _, _, _, _, _, _, _, _, _, _, _, _, _, _, _, _, _, _, _, _, _, _, _, _, _, _]) _
  refine seqd rfl rfl (does_call (args := #[(Fd r67), (Fd r72)]) cal37 (evs rfl) (c_laws_sameFloat r67 r72 _)) ?_; rintro _ w78 ⟨E77, rfl⟩
  have X79 := Ext.gr X76 E77
  show wpList _ _ _ _ (fr [_, _, _, _, _, _, _, _, _, _, _, _, _, _, _, _, _, _, _, _, _, _, _, _, _, _, _, _, _]) _
  refine q_is rfl rfl (does_not (ev rfl)) (by dsimp only [List.set]; try rfl) ?_
  refine wpList_nil (hK66 _ _ ?_)
  refine wp_cond_split (t := !(sameF (cf .f64 r67) (cf .f64 r72))) (ev rfl) (fun c80 => ?_) (fun c80 => ?_)
  · rw [Bool.not_eq_true'] at c80
    have c80' := c80
    refine wp_seq_k fun K81 hK81 => ?_
    refine wp_region_lit ?_
    refine q_is rfl rfl (does_assign (u := (Bo false)) (ev rfl)) (by dsimp only [List.set]; try rfl) ?_
    refine wpList_nil (hK81 _ _ ?_)
    refine wp_ret ?_
    dsimp only [Exit.then, Exit.inBlock]
    refine ret_val (v := (Bo false)) (res_T rfl (slot rfl)) X79 ?_
    try simp only [h2, h4, h6, h8, h10, h12, h32, h37, h50, h55, h68, h73] at c44 c62 c80
    have x82 : (sameV A_a A_b) = false := by first | with_reducible rfl | (simp only [sameV, h2, h4, h6, h8, h10, h12, h32, h37, h50, h55, h68, h73, c44, c62, c80]; done) | (simp [sameV, h2, h4, h6, h8, h10, h12, h32, h37, h50, h55, h68, h73, c44, c62, c80]; done) | (revert c44 c62 c80; simp +contextual [sameV, h2, h4, h6, h8, h10, h12, h32, h37, h50, h55, h68, h73]; done) | (rcases c44' with hh | hh <;> simp only [hh, sameV, h2, h4, h6, h8, h10, h12, h32, h37, h50, h55, h68, h73, c44, c62, c80]; done) | (rcases c62' with hh | hh <;> simp only [hh, sameV, h2, h4, h6, h8, h10, h12, h32, h37, h50, h55, h68, h73, c44, c62, c80]; done) | (rcases c80' with hh | hh <;> simp only [hh, sameV, h2, h4, h6, h8, h10, h12, h32, h37, h50, h55, h68, h73, c44, c62, c80]; done) | (rcases c80' with hh | hh <;> simp_all [sameV]; done) | (rcases c80' with hh | hh | hh <;> simp_all [sameV]; done) | (rcases c80' with hh | hh | hh | hh <;> simp_all [sameV]; done) | (simp_all [sameV]; done) | rfl
    exact (by first | with_reducible rfl | rw [x82] | rfl)
  rw [Bool.not_eq_false'] at c80
  have c80' := c80
  refine wp_skip (hK65 _ _ ?_)
  refine wp_seq_k fun K83 hK83 => ?_
  refine wp_region_lit ?_
  refine q_is rfl rfl (does_assign (u := (Bo true)) (ev rfl)) (by dsimp only [List.set]; try rfl) ?_
  refine wpList_nil (hK83 _ _ ?_)
  refine wp_ret ?_
  refine ret_val (v := (Bo true)) (res_T rfl (slot rfl)) X79 ?_
  try simp only [h2, h4, h6, h8, h10, h12, h32, h37, h50, h55, h68, h73] at c44 c62 c80
  have x84 : (sameV A_a A_b) = true := by first | with_reducible rfl | (simp only [sameV, h2, h4, h6, h8, h10, h12, h32, h37, h50, h55, h68, h73, c44, c62, c80]; done) | (simp [sameV, h2, h4, h6, h8, h10, h12, h32, h37, h50, h55, h68, h73, c44, c62, c80]; done) | (revert c44 c62 c80; simp +contextual [sameV, h2, h4, h6, h8, h10, h12, h32, h37, h50, h55, h68, h73]; done) | (rcases c44' with hh | hh <;> simp only [hh, sameV, h2, h4, h6, h8, h10, h12, h32, h37, h50, h55, h68, h73, c44, c62, c80]; done) | (rcases c62' with hh | hh <;> simp only [hh, sameV, h2, h4, h6, h8, h10, h12, h32, h37, h50, h55, h68, h73, c44, c62, c80]; done) | (rcases c80' with hh | hh <;> simp only [hh, sameV, h2, h4, h6, h8, h10, h12, h32, h37, h50, h55, h68, h73, c44, c62, c80]; done) | (rcases c80' with hh | hh <;> simp_all [sameV]; done) | (rcases c80' with hh | hh | hh <;> simp_all [sameV]; done) | (rcases c80' with hh | hh | hh | hh <;> simp_all [sameV]; done) | (simp_all [sameV]; done) | rfl
  exact (by first | with_reducible rfl | rw [x84] | rfl)

/- laws.eqCamera -/
theorem c_laws_eqCamera (a : List Value) (A_a : CamT) (b : List Value) (A_b : CamT) (w : World) (hv_a : RCamT w A_a a) (hv_b : RCamT w A_b b) : Gives Try.prog 46 #[(.agg a.toArray), (.agg b.toArray)] w (fun v w' => v = (Bo (sameCam A_a A_b))) := by
  obtain ⟨r1, r3, r5, r7, r9, r11, r13, rfl, h2, h4, h6, h8, h10, h12, h14⟩ := hv_a
  obtain ⟨r15, r17, r19, r21, r23, r25, r27, rfl, h16, h18, h20, h22, h24, h26, h28⟩ := hv_b
  refine enter [(.agg #[(Fl r1), (Fl r3), (Fl r5), (Fl r7), (Fl r9), (Fl r11), (Fl r13), (Iv A_a.width), (Iv A_a.height)]), (.agg #[(Fl r15), (Fl r17), (Fl r19), (Fl r21), (Fl r23), (Fl r25), (Fl r27), (Iv A_b.width), (Iv A_b.height)]), Ud, Ud, Ud, Ud, Ud, Ud, Ud, Ud, Ud, Ud, Ud, Ud, Ud, Ud, Ud, Ud, Ud, Ud, Ud, Ud, Ud, Ud, Ud, Ud, Ud, Ud, Ud, Ud, Ud, Ud, Ud, Ud, Ud] Try.func46 rfl Try.ntmps46 rfl ?_
  refine wp_seq_k fun K29 hK29 => ?_
  refine wp_region_lit ?_
  refine seqd rfl rfl (does_box (u := (.agg #[(Fl r1), (Fl r3), (Fl r5), (Fl r7), (Fl r9), (Fl r11), (Fl r13), (Iv A_a.width), (Iv A_a.height)])) (ev rfl)) ?_; rintro _ w34 ⟨b30, rfl, hb31, hB32, E33⟩
  have g35 : w.heap.size ≤ b30 := Nat.le_trans (Below.size (Ext.refl w)) hb31
  change Blk _ _ [(Fl r1), (Fl r3), (Fl r5), (Fl r7), (Fl r9), (Fl r11), (Fl r13), (Iv A_a.width), (Iv A_a.height)] at hB32
  have X36 := Ext.gr (Ext.refl w) E33
  show wpList _ _ _ _ (fr [_, _, _, _, _, _, _, _, _, _, _, _, _, _, _, _, _, _, _, _, _, _, _, _, _, _, _, _, _, _, _, _, _, _, _]) _
  refine seqd rfl rfl (does_box (u := (.agg #[(Fl r15), (Fl r17), (Fl r19), (Fl r21), (Fl r23), (Fl r25), (Fl r27), (Iv A_b.width), (Iv A_b.height)])) (ev rfl)) ?_; rintro _ w41 ⟨b37, rfl, hb38, hB39, E40⟩
  have n42 : b30 < b37 := Nat.lt_of_lt_of_le (Blk.lt hB32) hb38
  have g43 : w.heap.size ≤ b37 := Nat.le_trans (Below.size X36) hb38
  change Blk _ _ [(Fl r15), (Fl r17), (Fl r19), (Fl r21), (Fl r23), (Fl r25), (Fl r27), (Iv A_b.width), (Iv A_b.height)] at hB39
  have X44 := Ext.gr X36 E40
  show wpList _ _ _ _ (fr [_, _, _, _, _, _, _, _, _, _, _, _, _, _, _, _, _, _, _, _, _, _, _, _, _, _, _, _, _, _, _, _, _, _, _]) _
  refine q_is rfl rfl (does_assign (u := (Bo false)) (ev rfl)) (by dsimp only [List.set]; try rfl) ?_
  refine wpList_nil (hK29 _ _ ?_)
  refine wp_seq_k fun K45 hK45 => ?_
  refine wp_seq_k fun K46 hK46 => ?_
  refine wp_region_lit ?_
  refine q_is rfl rfl (does_fieldAddr (ev rfl) fa60_0) (by dsimp only [List.set]; try rfl) ?_
  refine q_is rfl rfl (does_loadAgg (cs := [(Fl r1), (Fl r3), (Fl r5)]) (ev rfl) Try.isAgg40 Try.sizeOf40 (Cells.sub (Blk.cells (hB32.ext E40)) 0 3) rfl) (by dsimp only [List.set]; try rfl) ?_
  refine q_is rfl rfl (does_fieldAddr (ev rfl) fa60_0) (by dsimp only [List.set]; try rfl) ?_
  refine q_is rfl rfl (does_loadAgg (cs := [(Fl r15), (Fl r17), (Fl r19)]) (ev rfl) Try.isAgg40 Try.sizeOf40 (Cells.sub (Blk.cells hB39) 0 3) rfl) (by dsimp only [List.set]; try rfl) ?_
  refine seqd rfl rfl (does_call (args := #[(.agg #[(Fl r1), (Fl r3), (Fl r5)]), (.agg #[(Fl r15), (Fl r17), (Fl r19)])]) cal15 (evs rfl) (c_laws_eqVector [(Fl r1), (Fl r3), (Fl r5)] A_a.frm [(Fl r15), (Fl r17), (Fl r19)] A_b.frm _ ⟨r1, r3, r5, rfl, h2, h4, h6⟩ ⟨r15, r17, r19, rfl, h16, h18, h20⟩)) ?_; rintro _ w48 ⟨E47, rfl⟩
  have X49 := Ext.gr X44 E47
  show wpList _ _ _ _ (fr [_, _, _, _, _, _, _, _, _, _, _, _, _, _, _, _, _, _, _, _, _, _, _, _, _, _, _, _, _, _, _, _, _, _, _]) _
  refine q_is rfl rfl (does_not (ev rfl)) (by dsimp only [List.set]; try rfl) ?_
  refine wpList_nil (hK46 _ _ ?_)
  refine wp_cond_split (t := !(sameV A_a.frm A_b.frm)) (ev rfl) (fun c50 => ?_) (fun c50 => ?_)
  · rw [Bool.not_eq_true'] at c50
    have c50' := c50
    refine wp_seq_k fun K51 hK51 => ?_
    refine wp_region_lit ?_
    refine q_is rfl rfl (does_assign (u := (Bo false)) (ev rfl)) (by dsimp only [List.set]; try rfl) ?_
    refine wpList_nil (hK51 _ _ ?_)
    refine wp_ret ?_
    dsimp only [Exit.then, Exit.inBlock]
    refine ret_val (v := (Bo false)) (res_T rfl (slot rfl)) X49 ?_
    try simp only [h2, h4, h6, h8, h10, h12, h14, h16, h18, h20, h22, h24, h26, h28] at c50
    have x52 : (sameCam A_a A_b) = false := by first | with_reducible rfl | (simp only [sameCam, icmp, h2, h4, h6, h8, h10, h12, h14, h16, h18, h20, h22, h24, h26, h28, c50]; done) | (simp [sameCam, icmp, h2, h4, h6, h8, h10, h12, h14, h16, h18, h20, h22, h24, h26, h28, c50]; done) | (revert c50; simp +contextual [sameCam, icmp, h2, h4, h6, h8, h10, h12, h14, h16, h18, h20, h22, h24, h26, h28]; done) | (rcases c50' with hh | hh <;> simp only [hh, sameCam, icmp, h2, h4, h6, h8, h10, h12, h14, h16, h18, h20, h22, h24, h26, h28, c50]; done) | (rcases c50' with hh | hh <;> simp_all [sameCam, icmp]; done) | (rcases c50' with hh | hh | hh <;> simp_all [sameCam, icmp]; done) | (rcases c50' with hh | hh | hh | hh <;> simp_all [sameCam, icmp]; done) | (simp_all [sameCam, icmp]; done) | rfl
    exact (by first | with_reducible rfl | rw [x52] | rfl)
  rw [Bool.not_eq_false'] at c50
  have c50' := c50
  refine wp_skip (hK45 _ _ ?_)
  refine wp_seq_k fun K53 hK53 => ?_
  refine wp_seq_k fun K54 hK54 => ?_
  refine wp_region_lit ?_
  refine q_is rfl rfl (does_fieldAddr (ev rfl) fa60_1) (by dsimp only [List.set]; try rfl) ?_
  refine q_is rfl rfl (does_loadAgg (cs := [(Fl r7), (Fl r9), (Fl r11)]) (ev rfl) Try.isAgg40 Try.sizeOf40 (Cells.sub (Blk.cells ((hB32.ext E40).ext E47)) 3 3) rfl) (by dsimp only [List.set]; try rfl) ?_
  refine q_is rfl rfl (does_fieldAddr (ev rfl) fa60_1) (by dsimp only [List.set]; try rfl) ?_
  refine q_is rfl rfl (does_loadAgg (cs := [(Fl r21), (Fl r23), (Fl r25)]) (ev rfl) Try.isAgg40 Try.sizeOf40 (Cells.sub (Blk.cells (hB39.ext E47)) 3 3) rfl) (by dsimp only [List.set]; try rfl) ?_
  refine seqd rfl rfl (does_call (args := #[(.agg #[(Fl r7), (Fl r9), (Fl r11)]), (.agg #[(Fl r21), (Fl r23), (Fl r25)])]) cal15 (evs rfl) (c_laws_eqVector [(Fl r7), (Fl r9), (Fl r11)] A_a.to [(Fl r21), (Fl r23), (Fl r25)] A_b.to _ ⟨r7, r9, r11, rfl, h8, h10, h12⟩ ⟨r21, r23, r25, rfl, h22, h24, h26⟩)) ?_; rintro _ w56 ⟨E55, rfl⟩
  have X57 := Ext.gr X49 E55
  show wpList _ _ _ _ (fr [_, _, _, _, _, _, _, _, _, _, _, _, _, _, _, _, _, _, _, _, _, _, _, _, _, _, _, _, _, _, _, _, _, _, _]) _
  refine q_is rfl rfl (does_not (ev rfl)) (by dsimp only [List.set]; try rfl) ?_
  refine wpList_nil (hK54 _ _ ?_)
  refine wp_cond_split (t := !(sameV A_a.to A_b.to)) (ev rfl) (fun c58 => ?_) (fun c58 => ?_)
  · rw [Bool.not_eq_true'] at c58
    have c58' := c58
    refine wp_seq_k fun K59 hK59 => ?_
    refine wp_region_lit ?_
    refine q_is rfl rfl (does_assign (u := (Bo false)) (ev rfl)) (by dsimp only [List.set]; try rfl) ?_
    refine wpList_nil (hK59 _ _ ?_)
    refine wp_ret ?_
    dsimp only [Exit.then, Exit.inBlock]
    refine ret_val (v := (Bo false)) (res_T rfl (slot rfl)) X57 ?_
    try simp only [h2, h4, h6, h8, h10, h12, h14, h16, h18, h20, h22, h24, h26, h28] at c50 c58
    have x60 : (sameCam A_a A_b) = false := by first | with_reducible rfl | (simp only [sameCam, icmp, h2, h4, h6, h8, h10, h12, h14, h16, h18, h20, h22, h24, h26, h28, c50, c58]; done) | (simp [sameCam, icmp, h2, h4, h6, h8, h10, h12, h14, h16, h18, h20, h22, h24, h26, h28, c50, c58]; done) | (revert c50 c58; simp +contextual [sameCam, icmp, h2, h4, h6, h8, h10, h12, h14, h16, h18, h20, h22, h24, h26, h28]; done) | (rcases c50' with hh | hh <;> simp only [hh, sameCam, icmp, h2, h4, h6, h8, h10, h12, h14, h16, h18, h20, h22, h24, h26, h28, c50, c58]; done) | (rcases c58' with hh | hh <;> simp only [hh, sameCam, icmp, h2, h4, h6, h8, h10, h12, h14, h16, h18, h20, h22, h24, h26, h28, c50, c58]; done) | (rcases c58' with hh | hh <;> simp_all [sameCam, icmp]; done) | (rcases c58' with hh | hh | hh <;> simp_all [sameCam, icmp]; done) | (rcases c58' with hh | hh | hh | hh <;> simp_all [sameCam, icmp]; done) | (simp_all [sameCam, icmp]; done) | rfl
    exact (by first | with_reducible rfl | rw [x60] | rfl)
  rw [Bool.not_eq_false'] at c58
  have c58' := c58
  refine wp_skip (hK53 _ _ ?_)
  refine wp_seq_k fun K61 hK61 => ?_
  refine wp_seq_k fun K62 hK62 => ?_
  refine wp_region_lit ?_
  refine q_is rfl rfl (does_fieldAddr (ev rfl) fa60_2) (by dsimp only [List.set]; try rfl) ?_
  refine q_is rfl rfl (does_load (u := (Fl r13)) (ev rfl) Try.isAgg38 (Cells.at (Blk.cells (((hB32.ext E40).ext E47).ext E55)) 6 rfl)) (by dsimp only [List.set]; try rfl) ?_
  refine seqd rfl rfl (does_widen Try.underlying38 Try.underlying84 (ev rfl)) ?_; rintro _ w66 ⟨r63, rfl, h64, E65⟩
  have X67 := Ext.gr X57 E65
  show wpList _ _ _ _ (fr [_, _, _, _, _, _, _, _, _, _, _, _, _, _, _, _, _, _, _, _, _, _, _, _, _, _, _, _, _, _, _, _, _, _, _]) _
  refine q_is rfl rfl (does_fieldAddr (ev rfl) fa60_2) (by dsimp only [List.set]; try rfl) ?_
  refine q_is rfl rfl (does_load (u := (Fl r27)) (ev rfl) Try.isAgg38 (Cells.at (Blk.cells (((hB39.ext E47).ext E55).ext E65)) 6 rfl)) (by dsimp only [List.set]; try rfl) ?_
  refine seqd rfl rfl (does_widen Try.underlying38 Try.underlying84 (ev rfl)) ?_; rintro _ w71 ⟨r68, rfl, h69, E70⟩
  have X72 := Ext.gr X67 E70
  show wpList _ _ _ _ (fr [_, _, _, _, _, _, _, _, _, _, _, _, _, _, _, _, _, _, _, _, _, _, _, _, _, _, _, _, _, _, _, _, _, _, _]) _
  refine seqd rfl rfl (does_call (args := #[(Fd r63), (Fd r68)]) cal37 (evs rfl) (c_laws_sameFloat r63 r68 _)) ?_; rintro _ w74 ⟨E73, rfl⟩
  have X75 := Ext.gr X72 E73
  show wpList _ _ _ _ (fr [_, _, _, _, _, _, _, _, _, _, _, _, _, _, _, _, _, _, _, _, _, _, _, _, _, _, _, _, _, _, _, _, _, _, _]) _
  refine q_is rfl rfl (does_not (ev rfl)) (by dsimp only [List.set]; try rfl) ?_
  refine wpList_nil (hK62 _ _ ?_)
  refine wp_cond_split (t := !(sameF (cf .f64 r63) (cf .f64 r68))) (ev rfl) (fun c76 => ?_) (fun c76 => ?_)
  · rw [Bool.not_eq_true'] at c76
    have c76' := c76
    refine wp_seq_k fun K77 hK77 => ?_
    refine wp_region_lit ?_
    refine q_is rfl rfl (does_assign (u := (Bo false)) (ev rfl)) (by dsimp only [List.set]; try rfl) ?_
    refine wpList_nil (hK77 _ _ ?_)
    refine wp_ret ?_
    dsimp only [Exit.then, Exit.inBlock]
    refine ret_val (v := (Bo false)) (res_T rfl (slot rfl)) X75 ?_
    try simp only [h2, h4, h6, h8, h10, h12, h14, h16, h18, h20, h22, h24, h26, h28, h64, h69] at c50 c58 c76
    have x78 : (sameCam A_a A_b) = false := by first | with_reducible rfl | (simp only [sameCam, icmp, h2, h4, h6, h8, h10, h12, h14, h16, h18, h20, h22, h24, h26, h28, h64, h69, c50, c58, c76]; done) | (simp [sameCam, icmp, h2, h4, h6, h8, h10, h12, h14, h16, h18, h20, h22, h24, h26, h28, h64, h69, c50, c58, c76]; done) | (revert c50 c58 c76; simp +contextual [sameCam, icmp, h2, h4, h6, h8, h10, h12, h14, h16, h18, h20, h22, h24, h26, h28, h64, h69]; done) | (rcases c50' with hh | hh <;> simp only [hh, sameCam, icmp, h2, h4, h6, h8, h10, h12, h14, h16, h18, h20, h22, h24, h26, h28, h64, h69, c50, c58, c76]; done) | (rcases c58' with hh | hh <;> simp only [hh, sameCam, icmp, h2, h4, h6, h8, h10, h12, h14, h16, h18, h20, h22, h24, h26, h28, h64, h69, c50, c58, c76]; done) | (rcases c76' with hh | hh <;> simp only [hh, sameCam, icmp, h2, h4, h6, h8, h10, h12, h14, h16, h18, h20, h22, h24, h26, h28, h64, h69, c50, c58, c76]; done) | (rcases c76' with hh | hh <;> simp_all [sameCam, icmp]; done) | (rcases c76' with hh | hh | hh <;> simp_all [sameCam, icmp]; done) | (rcases c76' with hh | hh | hh | hh <;> simp_all [sameCam, icmp]; done) | (simp_all [sameCam, icmp]; done) | rfl
    exact (by first | with_reducible rfl | rw [x78] | rfl)
  rw [Bool.not_eq_false'] at c76
  have c76' := c76
  refine wp_skip (hK61 _ _ ?_)
  refine wp_seq_k fun K79 hK79 => ?_
  refine wp_seq_k fun K80 hK80 => ?_
  refine wp_region_lit ?_
  refine q_is rfl rfl (does_fieldAddr (ev rfl) fa60_3) (by dsimp only [List.set]; try rfl) ?_
  refine q_is rfl rfl (does_load (u := (Iv A_a.width)) (ev rfl) Try.isAgg2 (Cells.at (Blk.cells ((((((hB32.ext E40).ext E47).ext E55).ext E65).ext E70).ext E73)) 7 rfl)) (by dsimp only [List.set]; try rfl) ?_
  refine q_is rfl rfl (does_fieldAddr (ev rfl) fa60_3) (by dsimp only [List.set]; try rfl) ?_
  refine q_is rfl rfl (does_load (u := (Iv A_b.width)) (ev rfl) Try.isAgg2 (Cells.at (Blk.cells (((((hB39.ext E47).ext E55).ext E65).ext E70).ext E73)) 7 rfl)) (by dsimp only [List.set]; try rfl) ?_
  refine q_is rfl rfl (does_icmp (p := A_a.width) (q := A_b.width) (.inr (.inl rfl)) (ev rfl) (ev rfl)) (by dsimp only [List.set]; try rfl) ?_
  refine wpList_nil (hK80 _ _ ?_)
  refine wp_cond_split (t := icmp .neq A_a.width A_b.width) (ev rfl) (fun c81 => ?_) (fun c81 => ?_)
  · have c81' := c81
    (try simp only [icmp, Bool.and_eq_true, Bool.or_eq_true, Bool.and_eq_false_iff, Bool.or_eq_false_iff, Bool.not_eq_true', Bool.not_eq_false', decide_eq_true_eq, decide_eq_false_iff_not, beq_iff_eq, bne_iff_ne, beq_eq_false_iff_ne, bne_eq_false_iff_eq] at c81')
    refine wp_seq_k fun K82 hK82 => ?_
    refine wp_region_lit ?_
    refine q_is rfl rfl (does_assign (u := (Bo false)) (ev rfl)) (by dsimp only [List.set]; try rfl) ?_
    refine wpList_nil (hK82 _ _ ?_)
    refine wp_ret ?_
    dsimp only [Exit.then, Exit.inBlock]
    refine ret_val (v := (Bo false)) (res_T rfl (slot rfl)) X75 ?_
    try simp only [h2, h4, h6, h8, h10, h12, h14, h16, h18, h20, h22, h24, h26, h28, h64, h69] at c50 c58 c76 c81
    have x83 : (sameCam A_a A_b) = false := by first | with_reducible rfl | (simp only [sameCam, icmp, h2, h4, h6, h8, h10, h12, h14, h16, h18, h20, h22, h24, h26, h28, h64, h69, c50, c58, c76, c81]; done) | (simp [sameCam, icmp, h2, h4, h6, h8, h10, h12, h14, h16, h18, h20, h22, h24, h26, h28, h64, h69, c50, c58, c76, c81]; done) | (revert c50 c58 c76 c81; simp +contextual [sameCam, icmp, h2, h4, h6, h8, h10, h12, h14, h16, h18, h20, h22, h24, h26, h28, h64, h69]; done) | (rcases c50' with hh | hh <;> simp only [hh, sameCam, icmp, h2, h4, h6, h8, h10, h12, h14, h16, h18, h20, h22, h24, h26, h28, h64, h69, c50, c58, c76, c81]; done) | (rcases c58' with hh | hh <;> simp only [hh, sameCam, icmp, h2, h4, h6, h8, h10, h12, h14, h16, h18, h20, h22, h24, h26, h28, h64, h69, c50, c58, c76, c81]; done) | (rcases c76' with hh | hh <;> simp only [hh, sameCam, icmp, h2, h4, h6, h8, h10, h12, h14, h16, h18, h20, h22, h24, h26, h28, h64, h69, c50, c58, c76, c81]; done) | (rcases c81' with hh | hh <;> simp only [hh, sameCam, icmp, h2, h4, h6, h8, h10, h12, h14, h16, h18, h20, h22, h24, h26, h28, h64, h69, c50, c58, c76, c81]; done) | (rcases c81' with hh | hh <;> simp_all [sameCam, icmp]; done) | (rcases c81' with hh | hh | hh <;> simp_all [sameCam, icmp]; done) | (rcases c81' with hh | hh | hh | hh <;> simp_all [sameCam, icmp]; done) | (simp_all [sameCam, icmp]; done) | rfl
    exact (by first | with_reducible rfl | rw [x83] | rfl)
  have c81' := c81
  (try simp only [icmp, Bool.and_eq_true, Bool.or_eq_true, Bool.and_eq_false_iff, Bool.or_eq_false_iff, Bool.not_eq_true', Bool.not_eq_false', decide_eq_true_eq, decide_eq_false_iff_not, beq_iff_eq, bne_iff_ne, beq_eq_false_iff_ne, bne_eq_false_iff_eq] at c81')
  refine wp_skip (hK79 _ _ ?_)
  refine wp_seq_k fun K84 hK84 => ?_
  refine wp_seq_k fun K85 hK85 => ?_
  refine wp_region_lit ?_
  refine q_is rfl rfl (does_fieldAddr (ev rfl) fa60_4) (by dsimp only [List.set]; try rfl) ?_
  refine q_is rfl rfl (does_load (u := (Iv A_a.height)) (ev rfl) Try.isAgg2 (Cells.at (Blk.cells ((((((hB32.ext E40).ext E47).ext E55).ext E65).ext E70).ext E73)) 8 rfl)) (by dsimp only [List.set]; try rfl) ?_
  refine q_is rfl rfl (does_fieldAddr (ev rfl) fa60_4) (by dsimp only [List.set]; try rfl) ?_
  refine q_is rfl rfl (does_load (u := (Iv A_b.height)) (ev rfl) Try.isAgg2 (Cells.at (Blk.cells (((((hB39.ext E47).ext E55).ext E65).ext E70).ext E73)) 8 rfl)) (by dsimp only [List.set]; try rfl) ?_
  refine q_is rfl rfl (does_icmp (p := A_a.height) (q := A_b.height) (.inr (.inl rfl)) (ev rfl) (ev rfl)) (by dsimp only [List.set]; try rfl) ?_
  refine wpList_nil (hK85 _ _ ?_)
  refine wp_cond_split (t := icmp .neq A_a.height A_b.height) (ev rfl) (fun c86 => ?_) (fun c86 => ?_)
  · have c86' := c86
    (try simp only [icmp, Bool.and_eq_true, Bool.or_eq_true, Bool.and_eq_false_iff, Bool.or_eq_false_iff, Bool.not_eq_true', Bool.not_eq_false', decide_eq_true_eq, decide_eq_false_iff_not, beq_iff_eq, bne_iff_ne, beq_eq_false_iff_ne, bne_eq_false_iff_eq] at c86')
    refine wp_seq_k fun K87 hK87 => ?_
    refine wp_region_lit ?_
    refine q_is rfl rfl (does_assign (u := (Bo false)) (ev rfl)) (by dsimp only [List.set]; try rfl) ?_
    refine wpList_nil (hK87 _ _ ?_)
    refine wp_ret ?_
    dsimp only [Exit.then, Exit.inBlock]
    refine ret_val (v := (Bo false)) (res_T rfl (slot rfl)) X75 ?_
    try simp only [h2, h4, h6, h8, h10, h12, h14, h16, h18, h20, h22, h24, h26, h28, h64, h69] at c50 c58 c76 c81 c86
    have x88 : (sameCam A_a A_b) = false := by first | with_reducible rfl | (simp only [sameCam, icmp, h2, h4, h6, h8, h10, h12, h14, h16, h18, h20, h22, h24, h26, h28, h64, h69, c50, c58, c76, c81, c86]; done) | (simp [sameCam, icmp, h2, h4, h6, h8, h10, h12, h14, h16, h18, h20, h22, h24, h26, h28, h64, h69, c50, c58, c76, c81, c86]; done) | (revert c50 c58 c76 c81 c86; simp +contextual [sameCam, icmp, h2, h4, h6, h8, h10, h12, h14, h16, h18, h20, h22, h24, h26, h28, h64, h69]; done) | (rcases c50' with hh | hh <;> simp only [hh, sameCam, icmp, h2, h4, h6, h8, h10, h12, h14, h16, h18, h20, h22, h24, h26, h28, h64, h69, c50, c58, c76, c81, c86]; done) | (rcases c58' with hh | hh <;> simp only [hh, sameCam, icmp, h2, h4, h6, h8, h10, h12, h14, h16, h18, h20, h22, h24, h26, h28, h64, h69, c50, c58, c76, c81, c86]; done) | (rcases c76' with hh | hh <;> simp only [hh, sameCam, icmp, h2, h4, h6, h8, h10, h12, h14, h16, h18, h20, h22, h24, h26, h28, h64, h69, c50, c58, c76, c81, c86]; done) | (rcases c81' with hh | hh <;> simp only [hh, sameCam, icmp, h2, h4, h6, h8, h10, h12, h14, h16, h18, h20, h22, h24, h26, h28, h64, h69, c50, c58, c76, c81, c86]; done) | (rcases c86' with hh | hh <;> simp only [hh, sameCam, icmp, h2, h4, h6, h8, h10, h12, h14, h16, h18, h20, h22, h24, h26, h28, h64, h69, c50, c58, c76, c81, c86]; done) | (rcases c86' with hh | hh <;> simp_all [sameCam, icmp]; done) | (rcases c86' with hh | hh | hh <;> simp_all [sameCam, icmp]; done) | (rcases c86' with hh | hh | hh | hh <;> simp_all [sameCam, icmp]; done) | (simp_all [sameCam, icmp]; done) | rfl
    exact (by first | with_reducible rfl | rw [x88] | rfl)
  have c86' := c86
  (try simp only [icmp, Bool.and_eq_true, Bool.or_eq_true, Bool.and_eq_false_iff, Bool.or_eq_false_iff, Bool.not_eq_true', Bool.not_eq_false', decide_eq_true_eq, decide_eq_false_iff_not, beq_iff_eq, bne_iff_ne, beq_eq_false_iff_ne, bne_eq_false_iff_eq] at c86')
  refine wp_skip (hK84 _ _ ?_)
  refine wp_seq_k fun K89 hK89 => ?_
  refine wp_region_lit ?_
  refine q_is rfl rfl (does_assign (u := (Bo true)) (ev rfl)) (by dsimp only [List.set]; try rfl) ?_
  refine wpList_nil (hK89 _ _ ?_)
  refine wp_ret ?_
  refine ret_val (v := (Bo true)) (res_T rfl (slot rfl)) X75 ?_
  try simp only [h2, h4, h6, h8, h10, h12, h14, h16, h18, h20, h22, h24, h26, h28, h64, h69] at c50 c58 c76 c81 c86
  have x90 : (sameCam A_a A_b) = true := by first | with_reducible rfl | (simp only [sameCam, icmp, h2, h4, h6, h8, h10, h12, h14, h16, h18, h20, h22, h24, h26, h28, h64, h69, c50, c58, c76, c81, c86]; done) | (simp [sameCam, icmp, h2, h4, h6, h8, h10, h12, h14, h16, h18, h20, h22, h24, h26, h28, h64, h69, c50, c58, c76, c81, c86]; done) | (revert c50 c58 c76 c81 c86; simp +contextual [sameCam, icmp, h2, h4, h6, h8, h10, h12, h14, h16, h18, h20, h22, h24, h26, h28, h64, h69]; done) | (rcases c50' with hh | hh <;> simp only [hh, sameCam, icmp, h2, h4, h6, h8, h10, h12, h14, h16, h18, h20, h22, h24, h26, h28, h64, h69, c50, c58, c76, c81, c86]; done) | (rcases c58' with hh | hh <;> simp only [hh, sameCam, icmp, h2, h4, h6, h8, h10, h12, h14, h16, h18, h20, h22, h24, h26, h28, h64, h69, c50, c58, c76, c81, c86]; done) | (rcases c76' with hh | hh <;> simp only [hh, sameCam, icmp, h2, h4, h6, h8, h10, h12, h14, h16, h18, h20, h22, h24, h26, h28, h64, h69, c50, c58, c76, c81, c86]; done) | (rcases c81' with hh | hh <;> simp only [hh, sameCam, icmp, h2, h4, h6, h8, h10, h12, h14, h16, h18, h20, h22, h24, h26, h28, h64, h69, c50, c58, c76, c81, c86]; done) | (rcases c86' with hh | hh <;> simp only [hh, sameCam, icmp, h2, h4, h6, h8, h10, h12, h14, h16, h18, h20, h22, h24, h26, h28, h64, h69, c50, c58, c76, c81, c86]; done) | (rcases c86' with hh | hh <;> simp_all [sameCam, icmp]; done) | (rcases c86' with hh | hh | hh <;> simp_all [sameCam, icmp]; done) | (rcases c86' with hh | hh | hh | hh <;> simp_all [sameCam, icmp]; done) | (simp_all [sameCam, icmp]; done) | rfl
  exact (by first | with_reducible rfl | rw [x90] | rfl)

end Go.Proofs.Ytiagimgdjngnfaa
