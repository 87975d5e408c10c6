/- contracts of functions, each walked once -/
import Derived.Test.YtbbidfadenmmjaaTy
import Derived.Test.YtbbidfadenmmjaaUni
import Derived.Test.YtbbidfadenmmjaaOwn
namespace Go.Proofs.Ytbbidfadenmmjaa
open Go Go.RowKit
set_option maxRecDepth 100000
set_option maxHeartbeats 3200000
set_option linter.unusedVariables false
set_option linter.unusedSimpArgs false

/- laws.szVectorS -/
theorem c_laws_szVectorS (a : Value) (L_a : List V3) (left : Int) (w : World) (hv_a : Sl RV3 3 w a L_a) (hle : left ≤ 1048576) (hge : 0 ≤ left) : Gives Try.prog 13 #[a, (Iv left)] w (fun v w' => ∃ i_1 : Int, v = (Iv i_1) ∧ (i_1 < 0 ∨ ((L_a.length : Int) ≤ left ∧ i_1 = left - L_a.length ∧ 0 ≤ i_1))) := by
  have hlen_a := Sl.len hv_a; obtain ⟨p_a, q_a, rfl⟩ := Sl.shape hv_a
  refine enter [(.slice p_a L_a.length q_a), (Iv left), Ud, Ud, Ud, Ud, Ud, Ud, Ud, Ud, Ud, Ud] Try.func13 rfl Try.ntmps13 rfl ?_
  refine wp_seq_k fun K1 hK1 => ?_
  refine wp_region_lit ?_
  refine q_is (l' := [(.slice p_a L_a.length q_a), (Iv left), Ud, Ud, (Iv 0), Ud, Ud, Ud, Ud, Ud, Ud, Ud]) rfl rfl (does_assign (u := (Iv 0)) (ev rfl)) rfl ?_
  refine wpList_nil (hK1 _ _ ?_)
  refine wp_seq_k fun K2 hK2 => ?_
  refine wp_region_lit ?_
  refine q_is (l' := [(.slice p_a L_a.length q_a), (Iv left), Ud, Ud, (Iv 0), (Iv left), Ud, Ud, Ud, Ud, Ud, Ud]) rfl rfl (does_move (u := (Iv left)) (ev rfl)) rfl ?_
  refine q_is (l' := [(.slice p_a L_a.length q_a), (Iv left), Ud, Ud, (Iv 0), (Iv left), (.slice p_a L_a.length q_a), Ud, Ud, Ud, Ud, Ud]) rfl rfl (does_move (u := (.slice p_a L_a.length q_a)) (ev rfl)) rfl ?_
  refine q_is (l' := [(.slice p_a L_a.length q_a), (Iv left), Ud, Ud, (Iv 0), (Iv left), (.slice p_a L_a.length q_a), (Iv (L_a.length : Int)), Ud, Ud, Ud, Ud]) rfl rfl (does_len_slice Try.underlying22 (ev rfl)) rfl ?_
  refine q_is (l' := [(.slice p_a L_a.length q_a), (Iv left), Ud, Ud, (Iv 0), (Iv left), (.slice p_a L_a.length q_a), (Iv (L_a.length : Int)), (Iv (left - (L_a.length : Int))), Ud, Ud, Ud]) rfl rfl (does_iarith (p := left) (q := (L_a.length : Int)) (r := left - (L_a.length : Int)) (ev rfl) (ev rfl) (.inr (.inl ⟨rfl, (in_i64 (by omega) (by omega)).symm⟩))) rfl ?_
  refine q_is (l' := [(.slice p_a L_a.length q_a), (Iv (left - (L_a.length : Int))), Ud, Ud, (Iv 0), (Iv left), (.slice p_a L_a.length q_a), (Iv (L_a.length : Int)), (Iv (left - (L_a.length : Int))), Ud, Ud, Ud]) rfl rfl (does_assign (u := (Iv (left - (L_a.length : Int)))) (ev rfl)) rfl ?_
  refine wpList_nil (hK2 _ _ ?_)
  refine wp_seq_k fun K3 hK3 => ?_
  refine wp_seq_k fun K4 hK4 => ?_
  refine wp_region_lit ?_
  refine q_is (l' := [(.slice p_a L_a.length q_a), (Iv (left - (L_a.length : Int))), Ud, Ud, (Iv 0), (Iv left), (.slice p_a L_a.length q_a), (Iv (L_a.length : Int)), (Iv (left - (L_a.length : Int))), (Iv (left - (L_a.length : Int))), Ud, Ud]) rfl rfl (does_move (u := (Iv (left - (L_a.length : Int)))) (ev rfl)) rfl ?_
  refine q_is (l' := [(.slice p_a L_a.length q_a), (Iv (left - (L_a.length : Int))), Ud, Ud, (Iv 0), (Iv left), (.slice p_a L_a.length q_a), (Iv (L_a.length : Int)), (Iv (left - (L_a.length : Int))), (Iv (left - (L_a.length : Int))), (Bo (icmp .lss (left - (L_a.length : Int)) 0)), Ud]) rfl rfl (does_icmp (p := left - (L_a.length : Int)) (q := 0) (.inr (.inr (.inl rfl))) (ev rfl) (ev rfl)) rfl ?_
  refine wpList_nil (hK4 _ _ ?_)
  refine wp_cond_split (t := icmp .lss (left - (L_a.length : Int)) 0) (ev rfl) (fun c5 => ?_) (fun c5 => ?_)
  · have c5' := c5
    (try simp only [icmp, Bool.and_eq_true, Bool.or_eq_true, Bool.and_eq_false_iff, Bool.or_eq_false_iff, Bool.not_eq_true', Bool.not_eq_false', decide_eq_true_eq, decide_eq_false_iff_not, beq_iff_eq, bne_iff_ne, beq_eq_false_iff_ne, bne_eq_false_iff_eq] at c5')
    refine wp_seq_k fun K6 hK6 => ?_
    refine wp_region_lit ?_
    refine q_is (l' := [(.slice p_a L_a.length q_a), (Iv (left - (L_a.length : Int))), Ud, Ud, (Iv (-1)), (Iv left), (.slice p_a L_a.length q_a), (Iv (L_a.length : Int)), (Iv (left - (L_a.length : Int))), (Iv (left - (L_a.length : Int))), (Bo (icmp .lss (left - (L_a.length : Int)) 0)), Ud]) rfl rfl (does_assign (u := (Iv (-1))) (ev rfl)) rfl ?_
    refine wpList_nil (hK6 _ _ ?_)
    refine wp_ret ?_
    dsimp only [Exit.then, Exit.inBlock]
    refine ret_val (v := (Iv (-1))) (res_T rfl (slot rfl)) (Ext.refl w) ?_
    have x7 : (-1) < 0 ∨ ((L_a.length : Int) ≤ left ∧ (-1) = left - L_a.length ∧ 0 ≤ (-1)) := by omega
    exact ⟨(-1), rfl, x7⟩
  have c5' := c5
  (try simp only [icmp, Bool.and_eq_true, Bool.or_eq_true, Bool.and_eq_false_iff, Bool.or_eq_false_iff, Bool.not_eq_true', Bool.not_eq_false', decide_eq_true_eq, decide_eq_false_iff_not, beq_iff_eq, bne_iff_ne, beq_eq_false_iff_ne, bne_eq_false_iff_eq] at c5')
  refine wp_skip (hK3 _ _ ?_)
  refine wp_seq_k fun K8 hK8 => ?_
  refine wp_region_lit ?_
  refine q_is (l' := [(.slice p_a L_a.length q_a), (Iv (left - (L_a.length : Int))), Ud, Ud, (Iv 0), (Iv left), (.slice p_a L_a.length q_a), (Iv (L_a.length : Int)), (Iv (left - (L_a.length : Int))), (Iv (left - (L_a.length : Int))), (Bo (icmp .lss (left - (L_a.length : Int)) 0)), (Iv (left - (L_a.length : Int)))]) rfl rfl (does_move (u := (Iv (left - (L_a.length : Int)))) (ev rfl)) rfl ?_
  refine q_is (l' := [(.slice p_a L_a.length q_a), (Iv (left - (L_a.length : Int))), Ud, Ud, (Iv (left - (L_a.length : Int))), (Iv left), (.slice p_a L_a.length q_a), (Iv (L_a.length : Int)), (Iv (left - (L_a.length : Int))), (Iv (left - (L_a.length : Int))), (Bo (icmp .lss (left - (L_a.length : Int)) 0)), (Iv (left - (L_a.length : Int)))]) rfl rfl (does_assign (u := (Iv (left - (L_a.length : Int)))) (ev rfl)) rfl ?_
  refine wpList_nil (hK8 _ _ ?_)
  refine wp_ret ?_
  refine ret_val (v := (Iv (left - (L_a.length : Int)))) (res_T rfl (slot rfl)) (Ext.refl w) ?_
  have x9 : (left - (L_a.length : Int)) < 0 ∨ ((L_a.length : Int) ≤ left ∧ (left - (L_a.length : Int)) = left - L_a.length ∧ 0 ≤ (left - (L_a.length : Int))) := by omega
  exact ⟨(left - (L_a.length : Int)), rfl, x9⟩

/- spec.l01Finite -/
theorem c_spec_l01Finite (x : Nat) (w : World) : Gives Try.prog 94 #[(Fl x)] w (fun v w' => v = (Bo (finF (cf .f32 x)))) := by
  refine enter [(Fl x), Ud, Ud, Ud, Ud, Ud, Ud] Try.func94 rfl Try.ntmps94 rfl ?_
  refine wp_seq_k fun K1 hK1 => ?_
  refine wp_region_lit ?_
  refine q_is (l' := [(Fl x), Ud, (Bo false), Ud, Ud, Ud, Ud]) rfl rfl (does_assign (u := (Bo false)) (ev rfl)) rfl ?_
  refine wpList_nil (hK1 _ _ ?_)
  refine wp_seq_k fun K2 hK2 => ?_
  refine wp_region_lit ?_
  refine q_is (l' := [(Fl x), Ud, (Bo false), (Fl x), Ud, Ud, Ud]) rfl rfl (does_move (u := (Fl x)) (ev rfl)) rfl ?_
  refine q_is (l' := [(Fl x), Ud, (Bo false), (Fl x), (Fl x), Ud, Ud]) rfl rfl (does_move (u := (Fl x)) (ev rfl)) rfl ?_
  refine seqd rfl rfl (does_float (.inr (.inl rfl)) (ev rfl) (ev rfl)) ?_; rintro _ w6 ⟨r3, rfl, h4, E5⟩
  have X7 := Ext.gr (Ext.refl w) E5
  show wpList _ _ _ _ (fr [(Fl x), Ud, (Bo false), (Fl x), (Fl x), (Fl r3), Ud]) _
  refine q_is (l' := [(Fl x), Ud, (Bo false), (Fl x), (Fl x), (Fl r3), (Bo (fcmp .eql (ford .f32 (cf .f32 r3) (cf .f32 0))))]) rfl rfl (does_fcmp (.inl rfl) (ev rfl) (ev rfl)) rfl ?_
  refine q_is (l' := [(Fl x), Ud, (Bo (fcmp .eql (ford .f32 (cf .f32 r3) (cf .f32 0)))), (Fl x), (Fl x), (Fl r3), (Bo (fcmp .eql (ford .f32 (cf .f32 r3) (cf .f32 0))))]) rfl rfl (does_assign (u := (Bo (fcmp .eql (ford .f32 (cf .f32 r3) (cf .f32 0))))) (ev rfl)) rfl ?_
  refine wpList_nil (hK2 _ _ ?_)
  refine wp_ret ?_
  refine ret_val (v := (Bo (fcmp .eql (ford .f32 (cf .f32 r3) (cf .f32 0))))) (res_T rfl (slot rfl)) X7 ?_
  have x8 : (finF (cf .f32 x)) = (fcmp .eql (ford .f32 (cf .f32 r3) (cf .f32 0))) := by first | with_reducible rfl | (simp only [finF, h4]; done) | (simp [finF, h4]; done) | rfl
  exact (by first | rfl | rw [x8])

/- spec.l01VFinite -/
theorem c_spec_l01VFinite (v : List Value) (A_v : V3) (w : World) (hv_v : RV3 w A_v v) : Gives Try.prog 52 #[(.agg v.toArray)] w (fun v w' => v = (Bo (finV A_v))) := by
  obtain ⟨r1, r3, r5, rfl, h2, h4, h6⟩ := hv_v
  refine enter [(.agg #[(Fl r1), (Fl r3), (Fl r5)]), Ud, Ud, Ud, Ud, Ud, Ud, Ud, Ud, Ud, Ud, Ud, Ud, Ud, Ud, Ud] Try.func52 rfl Try.ntmps52 rfl ?_
  refine wp_seq_k fun K7 hK7 => ?_
  refine wp_region_lit ?_
  refine seqd rfl rfl (does_box (u := (.agg #[(Fl r1), (Fl r3), (Fl r5)])) (ev rfl)) ?_; rintro _ w12 ⟨b8, rfl, hb9, hB10, E11⟩
  have g13 : w.heap.size ≤ b8 := Nat.le_trans (Below.size (Ext.refl w)) hb9
  change Blk _ _ [(Fl r1), (Fl r3), (Fl r5)] at hB10
  have X14 := Ext.gr (Ext.refl w) E11
  show wpList _ _ _ _ (fr [(.agg #[(Fl r1), (Fl r3), (Fl r5)]), (Pt b8 0), Ud, Ud, Ud, Ud, Ud, Ud, Ud, Ud, Ud, Ud, Ud, Ud, Ud, Ud]) _
  refine q_is (l' := [(.agg #[(Fl r1), (Fl r3), (Fl r5)]), (Pt b8 0), (Bo false), Ud, Ud, Ud, Ud, Ud, Ud, Ud, Ud, Ud, Ud, Ud, Ud, Ud]) rfl rfl (does_assign (u := (Bo false)) (ev rfl)) rfl ?_
  refine wpList_nil (hK7 _ _ ?_)
  refine wp_seq_k fun K15 hK15 => ?_
  obtain ⟨β1, hβ1⟩ : ∃ b : Bool, b = ((finF (cf .f32 r1)) && (finF (cf .f32 r3))) := ⟨_, rfl⟩
  obtain ⟨β2, hβ2⟩ : ∃ b : Bool, b = (β1 && (finF (cf .f32 r5))) := ⟨_, rfl⟩
  refine region_text (
    [Fact.pure [] (fun v => v = (Pt b8 0)),
    Fact.pure [3] (fun v => v = (Fl r1)),
    Fact.pure [4] (fun v => v = (Bo (finF (cf .f32 r1)))),
    Fact.pure [5] (fun v => v = (Bo (finF (cf .f32 r1)))),
    Fact.pure [6] (fun v => (finF (cf .f32 r1)) = true → v = (Pt b8 1)),
    Fact.pure [7, 6] (fun v => (finF (cf .f32 r1)) = true → v = (Fl r3)),
    Fact.pure [8, 6] (fun v => (finF (cf .f32 r1)) = true → v = (Bo (finF (cf .f32 r3)))),
    Fact.pure [6, 9] (fun v => v = (Bo β1)),
    Fact.pure [10] (fun v => v = (Bo β1)),
    Fact.pure [11] (fun v => β1 = true → v = (Pt b8 2)),
    Fact.pure [12, 11] (fun v => β1 = true → v = (Fl r5)),
    Fact.pure [13, 11] (fun v => β1 = true → v = (Bo (finF (cf .f32 r5)))),
    Fact.pure [11, 14] (fun v => v = (Bo β2))]) (by simp [Fact.pure, Fact.mem]) ?_
  refine RW_d (fun v16 => [(.agg #[(Fl r1), (Fl r3), (Fl r5)]), (Pt b8 0), (Bo false), v16, Ud, Ud, Ud, Ud, Ud, Ud, Ud, Ud, Ud, Ud, Ud, Ud]) rfl (fun _ => rfl) (fun u hu hF => ?_) (fun v16 => ?_)
  · clear hF
    refine doesG_un rfl ?_
    refine (does_fieldAddr (ev rfl) fa26_0).mono ?_; rintro _ _ ⟨rfl, rfl⟩
    exact ⟨rfl, Ext.refl _⟩
  refine RW_d (fun v17 => [(.agg #[(Fl r1), (Fl r3), (Fl r5)]), (Pt b8 0), (Bo false), v16, v17, Ud, Ud, Ud, Ud, Ud, Ud, Ud, Ud, Ud, Ud, Ud]) rfl (fun _ => rfl) (fun u hu hF => ?_) (fun v17 => ?_)
  · have h3_ : v16 = (Pt b8 0) := hF.1
    clear hF
    refine doesG_un rfl ?_
    obtain rfl := h3_
    refine (does_load (u := (Fl r1)) (ev rfl) Try.isAgg24 (Cells.at (Blk.cells (hB10.ext hu)) 0 rfl)).mono ?_; rintro _ _ ⟨rfl, rfl⟩
    exact ⟨rfl, Ext.refl _⟩
  refine RW_d (fun v18 => [(.agg #[(Fl r1), (Fl r3), (Fl r5)]), (Pt b8 0), (Bo false), v16, v17, v18, Ud, Ud, Ud, Ud, Ud, Ud, Ud, Ud, Ud, Ud]) rfl (fun _ => rfl) (fun u hu hF => ?_) (fun v18 => ?_)
  · have h4_ : v17 = (Fl r1) := hF.1
    clear hF
    refine doesG_un rfl ?_
    obtain rfl := h4_
    refine (does_call (args := #[(Fl r1)]) cal94 (evs rfl) (c_spec_l01Finite r1 _)).mono ?_; rintro v u' ⟨hx, hv⟩
    exact ⟨hv, hx⟩
  refine RW_d (fun v19 => [(.agg #[(Fl r1), (Fl r3), (Fl r5)]), (Pt b8 0), (Bo false), v16, v17, v18, v19, Ud, Ud, Ud, Ud, Ud, Ud, Ud, Ud, Ud]) rfl (fun _ => rfl) (fun u hu hF => ?_) (fun v19 => ?_)
  · have h5_ : v18 = (Bo (finF (cf .f32 r1))) := hF.1
    clear hF
    refine doesG_un rfl ?_
    obtain rfl := h5_
    refine (does_move (u := (Bo (finF (cf .f32 r1)))) (ev rfl)).mono ?_; rintro _ _ ⟨rfl, rfl⟩
    exact ⟨rfl, Ext.refl _⟩
  refine RW_d (fun v20 => [(.agg #[(Fl r1), (Fl r3), (Fl r5)]), (Pt b8 0), (Bo false), v16, v17, v18, v19, v20, Ud, Ud, Ud, Ud, Ud, Ud, Ud, Ud]) rfl (fun _ => rfl) (fun u hu hF => ?_) (fun v20 => ?_)
  · have h6_ : v19 = (Bo (finF (cf .f32 r1))) := hF.1
    clear hF
    obtain rfl := h6_
    refine doesG_g (b := (finF (cf .f32 r1))) rfl (yld rfl rfl) (fun hg1 => ?_) (fun hc => ⟨fun hg1 => absurd hg1 hc, Ext.refl _⟩)
    refine (does_fieldAddr (ev rfl) fa26_1).mono ?_; rintro _ _ ⟨rfl, rfl⟩
    exact ⟨fun _ => rfl, Ext.refl _⟩
  refine RW_d (fun v21 => [(.agg #[(Fl r1), (Fl r3), (Fl r5)]), (Pt b8 0), (Bo false), v16, v17, v18, v19, v20, v21, Ud, Ud, Ud, Ud, Ud, Ud, Ud]) rfl (fun _ => rfl) (fun u hu hF => ?_) (fun v21 => ?_)
  · have h7_ : (finF (cf .f32 r1)) = true → v20 = (Pt b8 1) := hF.1
    have h6_ : v19 = (Bo (finF (cf .f32 r1))) := hF.2.1
    clear hF
    obtain rfl := h6_
    refine doesG_g (b := (finF (cf .f32 r1))) rfl (yld rfl rfl) (fun hg1 => ?_) (fun hc => ⟨fun hg1 => absurd hg1 hc, Ext.refl _⟩)
    obtain rfl := h7_ hg1
    refine (does_load (u := (Fl r3)) (ev rfl) Try.isAgg24 (Cells.at (Blk.cells (hB10.ext hu)) 1 rfl)).mono ?_; rintro _ _ ⟨rfl, rfl⟩
    exact ⟨fun _ => rfl, Ext.refl _⟩
  refine RW_d (fun v22 => [(.agg #[(Fl r1), (Fl r3), (Fl r5)]), (Pt b8 0), (Bo false), v16, v17, v18, v19, v20, v21, v22, Ud, Ud, Ud, Ud, Ud, Ud]) rfl (fun _ => rfl) (fun u hu hF => ?_) (fun v22 => ?_)
  · have h8_ : (finF (cf .f32 r1)) = true → v21 = (Fl r3) := hF.1
    have h6_ : v19 = (Bo (finF (cf .f32 r1))) := hF.2.1
    clear hF
    obtain rfl := h6_
    refine doesG_g (b := (finF (cf .f32 r1))) rfl (yld rfl rfl) (fun hg1 => ?_) (fun hc => ⟨fun hg1 => absurd hg1 hc, Ext.refl _⟩)
    obtain rfl := h8_ hg1
    refine (does_call (args := #[(Fl r3)]) cal94 (evs rfl) (c_spec_l01Finite r3 _)).mono ?_; rintro v u' ⟨hx, hv⟩
    exact ⟨fun _ => hv, hx⟩
  refine RW_d (fun v23 => [(.agg #[(Fl r1), (Fl r3), (Fl r5)]), (Pt b8 0), (Bo false), v16, v17, v18, v19, v20, v21, v22, v23, Ud, Ud, Ud, Ud, Ud]) rfl (fun _ => rfl) (fun u hu hF => ?_) (fun v23 => ?_)
  · have h6_ : v19 = (Bo (finF (cf .f32 r1))) := hF.1
    have h9_ : (finF (cf .f32 r1)) = true → v22 = (Bo (finF (cf .f32 r3))) := hF.2.1
    clear hF
    refine doesG_un rfl ?_
    skip
    obtain rfl := h6_
    refine (does_pick (b := (finF (cf .f32 r1))) (ev rfl) (ev rfl) (ev rfl)).mono ?_; rintro _ _ ⟨rfl, rfl⟩; refine ⟨?_, Ext.refl _⟩; rw [hβ1]; skip
    cases hbb : (finF (cf .f32 r1)) <;> simp [hbb] at h9_ ⊢
    all_goals (first | rfl | (subst h9_; rfl) | simp_all)
  refine RW_d (fun v24 => [(.agg #[(Fl r1), (Fl r3), (Fl r5)]), (Pt b8 0), (Bo false), v16, v17, v18, v19, v20, v21, v22, v23, v24, Ud, Ud, Ud, Ud]) rfl (fun _ => rfl) (fun u hu hF => ?_) (fun v24 => ?_)
  · have h10_ : v23 = (Bo β1) := hF.1
    clear hF
    refine doesG_un rfl ?_
    obtain rfl := h10_
    refine (does_move (u := (Bo β1)) (ev rfl)).mono ?_; rintro _ _ ⟨rfl, rfl⟩
    exact ⟨rfl, Ext.refl _⟩
  refine RW_d (fun v25 => [(.agg #[(Fl r1), (Fl r3), (Fl r5)]), (Pt b8 0), (Bo false), v16, v17, v18, v19, v20, v21, v22, v23, v24, v25, Ud, Ud, Ud]) rfl (fun _ => rfl) (fun u hu hF => ?_) (fun v25 => ?_)
  · have h11_ : v24 = (Bo β1) := hF.1
    clear hF
    obtain rfl := h11_
    refine doesG_g (b := β1) rfl (yld rfl rfl) (fun hg1 => ?_) (fun hc => ⟨fun hg1 => absurd hg1 hc, Ext.refl _⟩)
    refine (does_fieldAddr (ev rfl) fa26_2).mono ?_; rintro _ _ ⟨rfl, rfl⟩
    exact ⟨fun _ => rfl, Ext.refl _⟩
  refine RW_d (fun v26 => [(.agg #[(Fl r1), (Fl r3), (Fl r5)]), (Pt b8 0), (Bo false), v16, v17, v18, v19, v20, v21, v22, v23, v24, v25, v26, Ud, Ud]) rfl (fun _ => rfl) (fun u hu hF => ?_) (fun v26 => ?_)
  · have h12_ : β1 = true → v25 = (Pt b8 2) := hF.1
    have h11_ : v24 = (Bo β1) := hF.2.1
    clear hF
    obtain rfl := h11_
    refine doesG_g (b := β1) rfl (yld rfl rfl) (fun hg1 => ?_) (fun hc => ⟨fun hg1 => absurd hg1 hc, Ext.refl _⟩)
    obtain rfl := h12_ hg1
    refine (does_load (u := (Fl r5)) (ev rfl) Try.isAgg24 (Cells.at (Blk.cells (hB10.ext hu)) 2 rfl)).mono ?_; rintro _ _ ⟨rfl, rfl⟩
    exact ⟨fun _ => rfl, Ext.refl _⟩
  refine RW_d (fun v27 => [(.agg #[(Fl r1), (Fl r3), (Fl r5)]), (Pt b8 0), (Bo false), v16, v17, v18, v19, v20, v21, v22, v23, v24, v25, v26, v27, Ud]) rfl (fun _ => rfl) (fun u hu hF => ?_) (fun v27 => ?_)
  · have h13_ : β1 = true → v26 = (Fl r5) := hF.1
    have h11_ : v24 = (Bo β1) := hF.2.1
    clear hF
    obtain rfl := h11_
    refine doesG_g (b := β1) rfl (yld rfl rfl) (fun hg1 => ?_) (fun hc => ⟨fun hg1 => absurd hg1 hc, Ext.refl _⟩)
    obtain rfl := h13_ hg1
    refine (does_call (args := #[(Fl r5)]) cal94 (evs rfl) (c_spec_l01Finite r5 _)).mono ?_; rintro v u' ⟨hx, hv⟩
    exact ⟨fun _ => hv, hx⟩
  refine RW_d (fun v28 => [(.agg #[(Fl r1), (Fl r3), (Fl r5)]), (Pt b8 0), (Bo false), v16, v17, v18, v19, v20, v21, v22, v23, v24, v25, v26, v27, v28]) rfl (fun _ => rfl) (fun u hu hF => ?_) (fun v28 => ?_)
  · have h11_ : v24 = (Bo β1) := hF.1
    have h14_ : β1 = true → v27 = (Bo (finF (cf .f32 r5))) := hF.2.1
    clear hF
    refine doesG_un rfl ?_
    skip
    obtain rfl := h11_
    refine (does_pick (b := β1) (ev rfl) (ev rfl) (ev rfl)).mono ?_; rintro _ _ ⟨rfl, rfl⟩; refine ⟨?_, Ext.refl _⟩; rw [hβ2]; skip
    cases hbb : β1 <;> simp [hbb] at h14_ ⊢
    all_goals (first | rfl | (subst h14_; rfl) | simp_all)
  refine RW_fin ?_; intro w29 E30 hP31
  obtain ⟨⟨⟨⟨⟨⟨⟨⟨⟨⟨⟨⟨⟨-, -⟩, -⟩, -⟩, -⟩, -⟩, -⟩, -⟩, -⟩, -⟩, -⟩, -⟩, -⟩, q32⟩ := hP31
  have X33 := Ext.gr X14 E30
  have q32 : v28 = (Bo β2) := q32
  obtain rfl := q32
  show wpList _ _ _ _ (fr [(.agg #[(Fl r1), (Fl r3), (Fl r5)]), (Pt b8 0), (Bo false), v16, v17, v18, v19, v20, v21, v22, v23, v24, v25, v26, v27, (Bo β2)]) _
  refine q_is (l' := [(.agg #[(Fl r1), (Fl r3), (Fl r5)]), (Pt b8 0), (Bo β2), v16, v17, v18, v19, v20, v21, v22, v23, v24, v25, v26, v27, (Bo β2)]) rfl rfl (does_assign (u := (Bo β2)) (ev rfl)) rfl ?_
  refine wpList_nil (hK15 _ _ ?_)
  refine wp_ret ?_
  refine ret_val (v := (Bo β2)) (res_T rfl (slot rfl)) X33 ?_
  have x34 : (finV A_v) = β2 := by first | with_reducible rfl | (simp only [finV, h2, h4, h6, hβ1, hβ2]; done) | (simp [finV, h2, h4, h6, hβ1, hβ2]; done) | rfl
  exact (by first | rfl | rw [x34])

/- spec.l02Lesser -/
theorem c_spec_l02Lesser (x : Nat) (y : Nat) (w : World) : Gives Try.prog 95 #[(Fl x), (Fl y)] w (fun v w' => ∃ r_1 : Nat, v = (Fl r_1) ∧ cf .f32 r_1 = fminL (cf .f32 x) (cf .f32 y)) := by
  refine enter [(Fl x), (Fl y), Ud, Ud, Ud, Ud, Ud, Ud, Ud, Ud] Try.func95 rfl Try.ntmps95 rfl ?_
  refine wp_seq_k fun K1 hK1 => ?_
  refine wp_region_lit ?_
  refine q_is (l' := [(Fl x), (Fl y), Ud, Ud, (Fl 0), Ud, Ud, Ud, Ud, Ud]) rfl rfl (does_assign (u := (Fl 0)) (ev rfl)) rfl ?_
  refine wpList_nil (hK1 _ _ ?_)
  refine wp_seq_k fun K2 hK2 => ?_
  refine wp_seq_k fun K3 hK3 => ?_
  refine wp_region_lit ?_
  refine q_is (l' := [(Fl x), (Fl y), Ud, Ud, (Fl 0), (Fl y), Ud, Ud, Ud, Ud]) rfl rfl (does_move (u := (Fl y)) (ev rfl)) rfl ?_
  refine q_is (l' := [(Fl x), (Fl y), Ud, Ud, (Fl 0), (Fl y), (Fl x), Ud, Ud, Ud]) rfl rfl (does_move (u := (Fl x)) (ev rfl)) rfl ?_
  refine q_is (l' := [(Fl x), (Fl y), Ud, Ud, (Fl 0), (Fl y), (Fl x), (Bo (fcmp .lss (ford .f32 (cf .f32 y) (cf .f32 x)))), Ud, Ud]) rfl rfl (does_fcmp (.inr (.inr (.inl rfl))) (ev rfl) (ev rfl)) rfl ?_
  refine wpList_nil (hK3 _ _ ?_)
  refine wp_cond_split (t := fcmp .lss (ford .f32 (cf .f32 y) (cf .f32 x))) (ev rfl) (fun c4 => ?_) (fun c4 => ?_)
  · have c4' := c4
    refine wp_seq_k fun K5 hK5 => ?_
    refine wp_region_lit ?_
    refine q_is (l' := [(Fl x), (Fl y), Ud, Ud, (Fl 0), (Fl y), (Fl x), (Bo (fcmp .lss (ford .f32 (cf .f32 y) (cf .f32 x)))), (Fl y), Ud]) rfl rfl (does_move (u := (Fl y)) (ev rfl)) rfl ?_
    refine q_is (l' := [(Fl x), (Fl y), Ud, Ud, (Fl y), (Fl y), (Fl x), (Bo (fcmp .lss (ford .f32 (cf .f32 y) (cf .f32 x)))), (Fl y), Ud]) rfl rfl (does_assign (u := (Fl y)) (ev rfl)) rfl ?_
    refine wpList_nil (hK5 _ _ ?_)
    refine wp_ret ?_
    dsimp only [Exit.then, Exit.inBlock]
    refine ret_val (v := (Fl y)) (res_T rfl (slot rfl)) (Ext.refl w) ?_
    have x6 : cf .f32 y = fminL (cf .f32 x) (cf .f32 y) := by first | with_reducible rfl | (simp only [fminL, c4]; done) | (simp [fminL, c4]; done) | (revert c4; simp +contextual [fminL]; done) | (rcases c4' with hh | hh <;> simp only [hh, fminL, c4]; done) | (rcases c4' with hh | hh <;> simp_all [fminL]; done) | (rcases c4' with hh | hh | hh <;> simp_all [fminL]; done) | (rcases c4' with hh | hh | hh | hh <;> simp_all [fminL]; done) | (simp_all [fminL]; done) | rfl
    exact ⟨y, rfl, x6⟩
  have c4' := c4
  refine wp_skip (hK2 _ _ ?_)
  refine wp_seq_k fun K7 hK7 => ?_
  refine wp_region_lit ?_
  refine q_is (l' := [(Fl x), (Fl y), Ud, Ud, (Fl 0), (Fl y), (Fl x), (Bo (fcmp .lss (ford .f32 (cf .f32 y) (cf .f32 x)))), Ud, (Fl x)]) rfl rfl (does_move (u := (Fl x)) (ev rfl)) rfl ?_
  refine q_is (l' := [(Fl x), (Fl y), Ud, Ud, (Fl x), (Fl y), (Fl x), (Bo (fcmp .lss (ford .f32 (cf .f32 y) (cf .f32 x)))), Ud, (Fl x)]) rfl rfl (does_assign (u := (Fl x)) (ev rfl)) rfl ?_
  refine wpList_nil (hK7 _ _ ?_)
  refine wp_ret ?_
  refine ret_val (v := (Fl x)) (res_T rfl (slot rfl)) (Ext.refl w) ?_
  have x8 : cf .f32 x = fminL (cf .f32 x) (cf .f32 y) := by first | with_reducible rfl | (simp only [fminL, c4]; done) | (simp [fminL, c4]; done) | (revert c4; simp +contextual [fminL]; done) | (rcases c4' with hh | hh <;> simp only [hh, fminL, c4]; done) | (rcases c4' with hh | hh <;> simp_all [fminL]; done) | (rcases c4' with hh | hh | hh <;> simp_all [fminL]; done) | (rcases c4' with hh | hh | hh | hh <;> simp_all [fminL]; done) | (simp_all [fminL]; done) | rfl
  exact ⟨x, rfl, x8⟩

/- spec.l04Low -/
theorem c_spec_l04Low (a : List Value) (A_a : V3) (b : List Value) (A_b : V3) (w : World) (hv_a : RV3 w A_a a) (hv_b : RV3 w A_b b) : Gives Try.prog 53 #[(.agg a.toArray), (.agg b.toArray)] w (fun v w' => ∃ cs_1 : List Value, v = (.agg cs_1.toArray) ∧ RV3 w (vmin A_a A_b) cs_1) := by
  obtain ⟨r1, r3, r5, rfl, h2, h4, h6⟩ := hv_a
  obtain ⟨r7, r9, r11, rfl, h8, h10, h12⟩ := hv_b
  refine enter [(.agg #[(Fl r1), (Fl r3), (Fl r5)]), (.agg #[(Fl r7), (Fl r9), (Fl r11)]), Ud, Ud, Ud, Ud, Ud, Ud, Ud, Ud, Ud, Ud, Ud, Ud, Ud, Ud, Ud, Ud, Ud, Ud, Ud] Try.func53 rfl Try.ntmps53 rfl ?_
  refine wp_seq_k fun K13 hK13 => ?_
  refine wp_region_lit ?_
  refine seqd rfl rfl (does_box (u := (.agg #[(Fl r1), (Fl r3), (Fl r5)])) (ev rfl)) ?_; rintro _ w18 ⟨b14, rfl, hb15, hB16, E17⟩
  have g19 : w.heap.size ≤ b14 := Nat.le_trans (Below.size (Ext.refl w)) hb15
  change Blk _ _ [(Fl r1), (Fl r3), (Fl r5)] at hB16
  have X20 := Ext.gr (Ext.refl w) E17
  show wpList _ _ _ _ (fr [(.agg #[(Fl r1), (Fl r3), (Fl r5)]), (.agg #[(Fl r7), (Fl r9), (Fl r11)]), (Pt b14 0), Ud, Ud, Ud, Ud, Ud, Ud, Ud, Ud, Ud, Ud, Ud, Ud, Ud, Ud, Ud, Ud, Ud, Ud]) _
  refine seqd rfl rfl (does_box (u := (.agg #[(Fl r7), (Fl r9), (Fl r11)])) (ev rfl)) ?_; rintro _ w25 ⟨b21, rfl, hb22, hB23, E24⟩
  have n26 : b14 < b21 := Nat.lt_of_lt_of_le (Blk.lt hB16) hb22
  have g27 : w.heap.size ≤ b21 := Nat.le_trans (Below.size X20) hb22
  change Blk _ _ [(Fl r7), (Fl r9), (Fl r11)] at hB23
  have X28 := Ext.gr X20 E24
  show wpList _ _ _ _ (fr [(.agg #[(Fl r1), (Fl r3), (Fl r5)]), (.agg #[(Fl r7), (Fl r9), (Fl r11)]), (Pt b14 0), (Pt b21 0), Ud, Ud, Ud, Ud, Ud, Ud, Ud, Ud, Ud, Ud, Ud, Ud, Ud, Ud, Ud, Ud, Ud]) _
  refine seqd rfl rfl (does_alloc z26) ?_; rintro _ w33 ⟨b29, rfl, hb30, hB31, E32⟩
  have n34 : b14 < b29 := Nat.lt_of_lt_of_le (Blk.lt (hB16.ext E24)) hb30
  have n35 : b21 < b29 := Nat.lt_of_lt_of_le (Blk.lt hB23) hb30
  have g36 : w.heap.size ≤ b29 := Nat.le_trans (Below.size X28) hb30
  change Blk _ _ [(Fl 0), (Fl 0), (Fl 0)] at hB31
  have X37 := Ext.gr X28 E32
  show wpList _ _ _ _ (fr [(.agg #[(Fl r1), (Fl r3), (Fl r5)]), (.agg #[(Fl r7), (Fl r9), (Fl r11)]), (Pt b14 0), (Pt b21 0), (Pt b29 0), Ud, Ud, Ud, Ud, Ud, Ud, Ud, Ud, Ud, Ud, Ud, Ud, Ud, Ud, Ud, Ud]) _
  refine wpList_nil (hK13 _ _ ?_)
  refine wp_seq_k fun K38 hK38 => ?_
  refine region_draw (
    [Fact.pure [] (fun v => v = (Pt b14 0)),
    Fact.pure [5] (fun v => v = (Fl r1)),
    Fact.pure [] (fun v => v = (Pt b21 0)),
    Fact.pure [7] (fun v => v = (Fl r7)),
    Fact.pure [6, 8] (fun v => ∃ r_1 : Nat, v = (Fl r_1) ∧ cf .f32 r_1 = fminL (cf .f32 r1) (cf .f32 r7)),
    Fact.pure [] (fun v => v = (Pt b14 1)),
    Fact.pure [10] (fun v => v = (Fl r3)),
    Fact.pure [] (fun v => v = (Pt b21 1)),
    Fact.pure [12] (fun v => v = (Fl r9)),
    Fact.pure [11, 13] (fun v => ∃ r_1 : Nat, v = (Fl r_1) ∧ cf .f32 r_1 = fminL (cf .f32 r3) (cf .f32 r9)),
    Fact.pure [] (fun v => v = (Pt b14 2)),
    Fact.pure [15] (fun v => v = (Fl r5)),
    Fact.pure [] (fun v => v = (Pt b21 2)),
    Fact.pure [17] (fun v => v = (Fl r11)),
    Fact.pure [16, 18] (fun v => ∃ r_1 : Nat, v = (Fl r_1) ∧ cf .f32 r_1 = fminL (cf .f32 r5) (cf .f32 r11)),
    Fact.pure [9, 14, 19] (fun v => ∃ r_1 : Nat, ∃ r_2 : Nat, ∃ r_3 : Nat, v = (.agg #[(Fl r_1), (Fl r_2), (Fl r_3)]) ∧ cf .f32 r_1 = fminL (cf .f32 r1) (cf .f32 r7) ∧ cf .f32 r_2 = fminL (cf .f32 r3) (cf .f32 r9) ∧ cf .f32 r_3 = fminL (cf .f32 r5) (cf .f32 r11))]) mixed (by kernel_rfl) (by intro _ _ d _ _ h; cases d <;> exact h) ?_
  obtain ⟨w39, hw41⟩ : ∃ w', w' = World.drew w33 := ⟨_, rfl⟩; rw [← hw41]; have E40 : Ext w33 w39 := by rw [hw41]; exact Ext.draw _
  clear hw41
  have X42 := Ext.gr X37 E40
  refine RW_d (fun v43 => [(.agg #[(Fl r1), (Fl r3), (Fl r5)]), (.agg #[(Fl r7), (Fl r9), (Fl r11)]), (Pt b14 0), (Pt b21 0), (Pt b29 0), v43, Ud, Ud, Ud, Ud, Ud, Ud, Ud, Ud, Ud, Ud, Ud, Ud, Ud, Ud, Ud]) rfl (fun _ => rfl) (fun u hu hF => ?_) (fun v43 => ?_)
  · clear hF
    refine doesG_un rfl ?_
    refine (does_fieldAddr (ev rfl) fa26_0).mono ?_; rintro _ _ ⟨rfl, rfl⟩
    exact ⟨rfl, Ext.refl _⟩
  refine RW_d (fun v44 => [(.agg #[(Fl r1), (Fl r3), (Fl r5)]), (.agg #[(Fl r7), (Fl r9), (Fl r11)]), (Pt b14 0), (Pt b21 0), (Pt b29 0), v43, v44, Ud, Ud, Ud, Ud, Ud, Ud, Ud, Ud, Ud, Ud, Ud, Ud, Ud, Ud]) rfl (fun _ => rfl) (fun u hu hF => ?_) (fun v44 => ?_)
  · have h5_ : v43 = (Pt b14 0) := hF.1
    clear hF
    refine doesG_un rfl ?_
    obtain rfl := h5_
    refine (does_load (u := (Fl r1)) (ev rfl) Try.isAgg24 (Cells.at (Blk.cells ((((hB16.ext E24).ext E32).ext E40).ext hu)) 0 rfl)).mono ?_; rintro _ _ ⟨rfl, rfl⟩
    exact ⟨rfl, Ext.refl _⟩
  refine RW_d (fun v45 => [(.agg #[(Fl r1), (Fl r3), (Fl r5)]), (.agg #[(Fl r7), (Fl r9), (Fl r11)]), (Pt b14 0), (Pt b21 0), (Pt b29 0), v43, v44, v45, Ud, Ud, Ud, Ud, Ud, Ud, Ud, Ud, Ud, Ud, Ud, Ud, Ud]) rfl (fun _ => rfl) (fun u hu hF => ?_) (fun v45 => ?_)
  · clear hF
    refine doesG_un rfl ?_
    refine (does_fieldAddr (ev rfl) fa26_0).mono ?_; rintro _ _ ⟨rfl, rfl⟩
    exact ⟨rfl, Ext.refl _⟩
  refine RW_d (fun v46 => [(.agg #[(Fl r1), (Fl r3), (Fl r5)]), (.agg #[(Fl r7), (Fl r9), (Fl r11)]), (Pt b14 0), (Pt b21 0), (Pt b29 0), v43, v44, v45, v46, Ud, Ud, Ud, Ud, Ud, Ud, Ud, Ud, Ud, Ud, Ud, Ud]) rfl (fun _ => rfl) (fun u hu hF => ?_) (fun v46 => ?_)
  · have h7_ : v45 = (Pt b21 0) := hF.1
    clear hF
    refine doesG_un rfl ?_
    obtain rfl := h7_
    refine (does_load (u := (Fl r7)) (ev rfl) Try.isAgg24 (Cells.at (Blk.cells (((hB23.ext E32).ext E40).ext hu)) 0 rfl)).mono ?_; rintro _ _ ⟨rfl, rfl⟩
    exact ⟨rfl, Ext.refl _⟩
  refine RW_d (fun v47 => [(.agg #[(Fl r1), (Fl r3), (Fl r5)]), (.agg #[(Fl r7), (Fl r9), (Fl r11)]), (Pt b14 0), (Pt b21 0), (Pt b29 0), v43, v44, v45, v46, v47, Ud, Ud, Ud, Ud, Ud, Ud, Ud, Ud, Ud, Ud, Ud]) rfl (fun _ => rfl) (fun u hu hF => ?_) (fun v47 => ?_)
  · have h6_ : v44 = (Fl r1) := hF.1
    have h8_ : v46 = (Fl r7) := hF.2.1
    clear hF
    refine doesG_un rfl ?_
    obtain rfl := h6_
    obtain rfl := h8_
    refine (does_call (args := #[(Fl r1), (Fl r7)]) cal95 (evs rfl) (c_spec_l02Lesser r1 r7 _)).mono ?_; rintro v u' ⟨hx, ⟨rn1, hv, k0⟩⟩
    exact ⟨⟨rn1, hv, (by simp only [k0])⟩, hx⟩
  refine RW_d (fun v48 => [(.agg #[(Fl r1), (Fl r3), (Fl r5)]), (.agg #[(Fl r7), (Fl r9), (Fl r11)]), (Pt b14 0), (Pt b21 0), (Pt b29 0), v43, v44, v45, v46, v47, v48, Ud, Ud, Ud, Ud, Ud, Ud, Ud, Ud, Ud, Ud]) rfl (fun _ => rfl) (fun u hu hF => ?_) (fun v48 => ?_)
  · clear hF
    refine doesG_un rfl ?_
    refine (does_fieldAddr (ev rfl) fa26_1).mono ?_; rintro _ _ ⟨rfl, rfl⟩
    exact ⟨rfl, Ext.refl _⟩
  refine RW_d (fun v49 => [(.agg #[(Fl r1), (Fl r3), (Fl r5)]), (.agg #[(Fl r7), (Fl r9), (Fl r11)]), (Pt b14 0), (Pt b21 0), (Pt b29 0), v43, v44, v45, v46, v47, v48, v49, Ud, Ud, Ud, Ud, Ud, Ud, Ud, Ud, Ud]) rfl (fun _ => rfl) (fun u hu hF => ?_) (fun v49 => ?_)
  · have h10_ : v48 = (Pt b14 1) := hF.1
    clear hF
    refine doesG_un rfl ?_
    obtain rfl := h10_
    refine (does_load (u := (Fl r3)) (ev rfl) Try.isAgg24 (Cells.at (Blk.cells ((((hB16.ext E24).ext E32).ext E40).ext hu)) 1 rfl)).mono ?_; rintro _ _ ⟨rfl, rfl⟩
    exact ⟨rfl, Ext.refl _⟩
  refine RW_d (fun v50 => [(.agg #[(Fl r1), (Fl r3), (Fl r5)]), (.agg #[(Fl r7), (Fl r9), (Fl r11)]), (Pt b14 0), (Pt b21 0), (Pt b29 0), v43, v44, v45, v46, v47, v48, v49, v50, Ud, Ud, Ud, Ud, Ud, Ud, Ud, Ud]) rfl (fun _ => rfl) (fun u hu hF => ?_) (fun v50 => ?_)
  · clear hF
    refine doesG_un rfl ?_
    refine (does_fieldAddr (ev rfl) fa26_1).mono ?_; rintro _ _ ⟨rfl, rfl⟩
    exact ⟨rfl, Ext.refl _⟩
  refine RW_d (fun v51 => [(.agg #[(Fl r1), (Fl r3), (Fl r5)]), (.agg #[(Fl r7), (Fl r9), (Fl r11)]), (Pt b14 0), (Pt b21 0), (Pt b29 0), v43, v44, v45, v46, v47, v48, v49, v50, v51, Ud, Ud, Ud, Ud, Ud, Ud, Ud]) rfl (fun _ => rfl) (fun u hu hF => ?_) (fun v51 => ?_)
  · have h12_ : v50 = (Pt b21 1) := hF.1
    clear hF
    refine doesG_un rfl ?_
    obtain rfl := h12_
    refine (does_load (u := (Fl r9)) (ev rfl) Try.isAgg24 (Cells.at (Blk.cells (((hB23.ext E32).ext E40).ext hu)) 1 rfl)).mono ?_; rintro _ _ ⟨rfl, rfl⟩
    exact ⟨rfl, Ext.refl _⟩
  refine RW_d (fun v52 => [(.agg #[(Fl r1), (Fl r3), (Fl r5)]), (.agg #[(Fl r7), (Fl r9), (Fl r11)]), (Pt b14 0), (Pt b21 0), (Pt b29 0), v43, v44, v45, v46, v47, v48, v49, v50, v51, v52, Ud, Ud, Ud, Ud, Ud, Ud]) rfl (fun _ => rfl) (fun u hu hF => ?_) (fun v52 => ?_)
  · have h11_ : v49 = (Fl r3) := hF.1
    have h13_ : v51 = (Fl r9) := hF.2.1
    clear hF
    refine doesG_un rfl ?_
    obtain rfl := h11_
    obtain rfl := h13_
    refine (does_call (args := #[(Fl r3), (Fl r9)]) cal95 (evs rfl) (c_spec_l02Lesser r3 r9 _)).mono ?_; rintro v u' ⟨hx, ⟨rn1, hv, k0⟩⟩
    exact ⟨⟨rn1, hv, (by simp only [k0])⟩, hx⟩
  refine RW_d (fun v53 => [(.agg #[(Fl r1), (Fl r3), (Fl r5)]), (.agg #[(Fl r7), (Fl r9), (Fl r11)]), (Pt b14 0), (Pt b21 0), (Pt b29 0), v43, v44, v45, v46, v47, v48, v49, v50, v51, v52, v53, Ud, Ud, Ud, Ud, Ud]) rfl (fun _ => rfl) (fun u hu hF => ?_) (fun v53 => ?_)
  · clear hF
    refine doesG_un rfl ?_
    refine (does_fieldAddr (ev rfl) fa26_2).mono ?_; rintro _ _ ⟨rfl, rfl⟩
    exact ⟨rfl, Ext.refl _⟩
  refine RW_d (fun v54 => [(.agg #[(Fl r1), (Fl r3), (Fl r5)]), (.agg #[(Fl r7), (Fl r9), (Fl r11)]), (Pt b14 0), (Pt b21 0), (Pt b29 0), v43, v44, v45, v46, v47, v48, v49, v50, v51, v52, v53, v54, Ud, Ud, Ud, Ud]) rfl (fun _ => rfl) (fun u hu hF => ?_) (fun v54 => ?_)
  · have h15_ : v53 = (Pt b14 2) := hF.1
    clear hF
    refine doesG_un rfl ?_
    obtain rfl := h15_
    refine (does_load (u := (Fl r5)) (ev rfl) Try.isAgg24 (Cells.at (Blk.cells ((((hB16.ext E24).ext E32).ext E40).ext hu)) 2 rfl)).mono ?_; rintro _ _ ⟨rfl, rfl⟩
    exact ⟨rfl, Ext.refl _⟩
  refine RW_d (fun v55 => [(.agg #[(Fl r1), (Fl r3), (Fl r5)]), (.agg #[(Fl r7), (Fl r9), (Fl r11)]), (Pt b14 0), (Pt b21 0), (Pt b29 0), v43, v44, v45, v46, v47, v48, v49, v50, v51, v52, v53, v54, v55, Ud, Ud, Ud]) rfl (fun _ => rfl) (fun u hu hF => ?_) (fun v55 => ?_)
  · clear hF
    refine doesG_un rfl ?_
    refine (does_fieldAddr (ev rfl) fa26_2).mono ?_; rintro _ _ ⟨rfl, rfl⟩
    exact ⟨rfl, Ext.refl _⟩
  refine RW_d (fun v56 => [(.agg #[(Fl r1), (Fl r3), (Fl r5)]), (.agg #[(Fl r7), (Fl r9), (Fl r11)]), (Pt b14 0), (Pt b21 0), (Pt b29 0), v43, v44, v45, v46, v47, v48, v49, v50, v51, v52, v53, v54, v55, v56, Ud, Ud]) rfl (fun _ => rfl) (fun u hu hF => ?_) (fun v56 => ?_)
  · have h17_ : v55 = (Pt b21 2) := hF.1
    clear hF
    refine doesG_un rfl ?_
    obtain rfl := h17_
    refine (does_load (u := (Fl r11)) (ev rfl) Try.isAgg24 (Cells.at (Blk.cells (((hB23.ext E32).ext E40).ext hu)) 2 rfl)).mono ?_; rintro _ _ ⟨rfl, rfl⟩
    exact ⟨rfl, Ext.refl _⟩
  refine RW_d (fun v57 => [(.agg #[(Fl r1), (Fl r3), (Fl r5)]), (.agg #[(Fl r7), (Fl r9), (Fl r11)]), (Pt b14 0), (Pt b21 0), (Pt b29 0), v43, v44, v45, v46, v47, v48, v49, v50, v51, v52, v53, v54, v55, v56, v57, Ud]) rfl (fun _ => rfl) (fun u hu hF => ?_) (fun v57 => ?_)
  · have h16_ : v54 = (Fl r5) := hF.1
    have h18_ : v56 = (Fl r11) := hF.2.1
    clear hF
    refine doesG_un rfl ?_
    obtain rfl := h16_
    obtain rfl := h18_
    refine (does_call (args := #[(Fl r5), (Fl r11)]) cal95 (evs rfl) (c_spec_l02Lesser r5 r11 _)).mono ?_; rintro v u' ⟨hx, ⟨rn1, hv, k0⟩⟩
    exact ⟨⟨rn1, hv, (by simp only [k0])⟩, hx⟩
  refine RW_d (fun v58 => [(.agg #[(Fl r1), (Fl r3), (Fl r5)]), (.agg #[(Fl r7), (Fl r9), (Fl r11)]), (Pt b14 0), (Pt b21 0), (Pt b29 0), v43, v44, v45, v46, v47, v48, v49, v50, v51, v52, v53, v54, v55, v56, v57, v58]) rfl (fun _ => rfl) (fun u hu hF => ?_) (fun v58 => ?_)
  · have h9_ : ∃ r_1 : Nat, v47 = (Fl r_1) ∧ cf .f32 r_1 = fminL (cf .f32 r1) (cf .f32 r7) := hF.1
    have h14_ : ∃ r_1 : Nat, v52 = (Fl r_1) ∧ cf .f32 r_1 = fminL (cf .f32 r3) (cf .f32 r9) := hF.2.1
    have h19_ : ∃ r_1 : Nat, v57 = (Fl r_1) ∧ cf .f32 r_1 = fminL (cf .f32 r5) (cf .f32 r11) := hF.2.2.1
    clear hF
    refine doesG_un rfl ?_
    obtain ⟨r9_1, rfl, h9_2⟩ := h9_
    obtain ⟨r14_1, rfl, h14_2⟩ := h14_
    obtain ⟨r19_1, rfl, h19_2⟩ := h19_
    refine (does_build (parts' := [(0, (Fl r9_1)), (1, (Fl r14_1)), (2, (Fl r19_1))]) (cells := #[(Fl r9_1), (Fl r14_1), (Fl r19_1)]) (evp rfl) (by kernel_rfl)).mono ?_; rintro _ _ ⟨rfl, rfl⟩
    exact ⟨⟨r9_1, r14_1, r19_1, rfl, (by simp only [h9_2, h14_2, h19_2]), (by simp only [h9_2, h14_2, h19_2]), (by simp only [h9_2, h14_2, h19_2])⟩, Ext.refl _⟩
  refine RW_fin ?_; intro w59 E60 hP61
  obtain ⟨⟨⟨⟨⟨⟨⟨⟨⟨⟨⟨⟨⟨⟨⟨⟨-, -⟩, -⟩, -⟩, -⟩, -⟩, -⟩, -⟩, -⟩, -⟩, -⟩, -⟩, -⟩, -⟩, -⟩, -⟩, q62⟩ := hP61
  have X63 := Ext.gr X42 E60
  have q62 : ∃ r_1 : Nat, ∃ r_2 : Nat, ∃ r_3 : Nat, v58 = (.agg #[(Fl r_1), (Fl r_2), (Fl r_3)]) ∧ cf .f32 r_1 = fminL (cf .f32 r1) (cf .f32 r7) ∧ cf .f32 r_2 = fminL (cf .f32 r3) (cf .f32 r9) ∧ cf .f32 r_3 = fminL (cf .f32 r5) (cf .f32 r11) := q62
  obtain ⟨r64, r66, r68, rfl, h65, h67, h69⟩ := q62
  show wpList _ _ _ _ (fr [(.agg #[(Fl r1), (Fl r3), (Fl r5)]), (.agg #[(Fl r7), (Fl r9), (Fl r11)]), (Pt b14 0), (Pt b21 0), (Pt b29 0), v43, v44, v45, v46, v47, v48, v49, v50, v51, v52, v53, v54, v55, v56, v57, (.agg #[(Fl r64), (Fl r66), (Fl r68)])]) _
  refine seqn rfl rfl (does_store (n := 3) (cs := [(Fl 0), (Fl 0), (Fl 0)]) (u := (.agg #[(Fl r64), (Fl r66), (Fl r68)])) (ev rfl) (ev rfl) Try.sizeOf26 rfl ((hB31.ext E40).ext E60) (Nat.le_of_ble_eq_true rfl) rfl) ?_; rintro _ w72 ⟨rfl, W70, hB71⟩
  change Blk _ _ [(Fl r64), (Fl r66), (Fl r68)] at hB71
  have X73 := Below.wr X63 W70 g36
  refine wpList_nil (hK38 _ _ ?_)
  refine wp_ret ?_
  refine ret_val (v := (.agg #[(Fl r64), (Fl r66), (Fl r68)])) (res_C rfl (slot rfl) (run_loadAgg (cs := [(Fl r64), (Fl r66), (Fl r68)]) Try.isAgg26 Try.sizeOf26 (Blk.cells hB71) rfl)) X73 ?_
  have x74 : cf .f32 r64 = (vmin A_a A_b).x := by first | with_reducible rfl | (simp only [vmin, h2, h4, h6, h8, h10, h12, h65, h67, h69]; done) | (simp [vmin, h2, h4, h6, h8, h10, h12, h65, h67, h69]; done) | rfl
  have x75 : cf .f32 r66 = (vmin A_a A_b).y := by first | with_reducible rfl | (simp only [vmin, h2, h4, h6, h8, h10, h12, h65, h67, h69]; done) | (simp [vmin, h2, h4, h6, h8, h10, h12, h65, h67, h69]; done) | rfl
  have x76 : cf .f32 r68 = (vmin A_a A_b).z := by first | with_reducible rfl | (simp only [vmin, h2, h4, h6, h8, h10, h12, h65, h67, h69]; done) | (simp [vmin, h2, h4, h6, h8, h10, h12, h65, h67, h69]; done) | rfl
  exact ⟨[(Fl r64), (Fl r66), (Fl r68)], rfl, ⟨r64, r66, r68, rfl, x74, x75, x76⟩⟩

/- spec.l02Greater -/
theorem c_spec_l02Greater (x : Nat) (y : Nat) (w : World) : Gives Try.prog 78 #[(Fl x), (Fl y)] w (fun v w' => ∃ r_1 : Nat, v = (Fl r_1) ∧ cf .f32 r_1 = fmaxG (cf .f32 x) (cf .f32 y)) := by
  refine enter [(Fl x), (Fl y), Ud, Ud, Ud, Ud, Ud, Ud, Ud, Ud] Try.func78 rfl Try.ntmps78 rfl ?_
  refine wp_seq_k fun K1 hK1 => ?_
  refine wp_region_lit ?_
  refine q_is (l' := [(Fl x), (Fl y), Ud, Ud, (Fl 0), Ud, Ud, Ud, Ud, Ud]) rfl rfl (does_assign (u := (Fl 0)) (ev rfl)) rfl ?_
  refine wpList_nil (hK1 _ _ ?_)
  refine wp_seq_k fun K2 hK2 => ?_
  refine wp_seq_k fun K3 hK3 => ?_
  refine wp_region_lit ?_
  refine q_is (l' := [(Fl x), (Fl y), Ud, Ud, (Fl 0), (Fl y), Ud, Ud, Ud, Ud]) rfl rfl (does_move (u := (Fl y)) (ev rfl)) rfl ?_
  refine q_is (l' := [(Fl x), (Fl y), Ud, Ud, (Fl 0), (Fl y), (Fl x), Ud, Ud, Ud]) rfl rfl (does_move (u := (Fl x)) (ev rfl)) rfl ?_
  refine q_is (l' := [(Fl x), (Fl y), Ud, Ud, (Fl 0), (Fl y), (Fl x), (Bo (fcmp .gtr (ford .f32 (cf .f32 y) (cf .f32 x)))), Ud, Ud]) rfl rfl (does_fcmp (.inr (.inr (.inr (.inr (.inl rfl))))) (ev rfl) (ev rfl)) rfl ?_
  refine wpList_nil (hK3 _ _ ?_)
  refine wp_cond_split (t := fcmp .gtr (ford .f32 (cf .f32 y) (cf .f32 x))) (ev rfl) (fun c4 => ?_) (fun c4 => ?_)
  · have c4' := c4
    refine wp_seq_k fun K5 hK5 => ?_
    refine wp_region_lit ?_
    refine q_is (l' := [(Fl x), (Fl y), Ud, Ud, (Fl 0), (Fl y), (Fl x), (Bo (fcmp .gtr (ford .f32 (cf .f32 y) (cf .f32 x)))), (Fl y), Ud]) rfl rfl (does_move (u := (Fl y)) (ev rfl)) rfl ?_
    refine q_is (l' := [(Fl x), (Fl y), Ud, Ud, (Fl y), (Fl y), (Fl x), (Bo (fcmp .gtr (ford .f32 (cf .f32 y) (cf .f32 x)))), (Fl y), Ud]) rfl rfl (does_assign (u := (Fl y)) (ev rfl)) rfl ?_
    refine wpList_nil (hK5 _ _ ?_)
    refine wp_ret ?_
    dsimp only [Exit.then, Exit.inBlock]
    refine ret_val (v := (Fl y)) (res_T rfl (slot rfl)) (Ext.refl w) ?_
    have x6 : cf .f32 y = fmaxG (cf .f32 x) (cf .f32 y) := by first | with_reducible rfl | (simp only [fmaxG, c4]; done) | (simp [fmaxG, c4]; done) | (revert c4; simp +contextual [fmaxG]; done) | (rcases c4' with hh | hh <;> simp only [hh, fmaxG, c4]; done) | (rcases c4' with hh | hh <;> simp_all [fmaxG]; done) | (rcases c4' with hh | hh | hh <;> simp_all [fmaxG]; done) | (rcases c4' with hh | hh | hh | hh <;> simp_all [fmaxG]; done) | (simp_all [fmaxG]; done) | rfl
    exact ⟨y, rfl, x6⟩
  have c4' := c4
  refine wp_skip (hK2 _ _ ?_)
  refine wp_seq_k fun K7 hK7 => ?_
  refine wp_region_lit ?_
  refine q_is (l' := [(Fl x), (Fl y), Ud, Ud, (Fl 0), (Fl y), (Fl x), (Bo (fcmp .gtr (ford .f32 (cf .f32 y) (cf .f32 x)))), Ud, (Fl x)]) rfl rfl (does_move (u := (Fl x)) (ev rfl)) rfl ?_
  refine q_is (l' := [(Fl x), (Fl y), Ud, Ud, (Fl x), (Fl y), (Fl x), (Bo (fcmp .gtr (ford .f32 (cf .f32 y) (cf .f32 x)))), Ud, (Fl x)]) rfl rfl (does_assign (u := (Fl x)) (ev rfl)) rfl ?_
  refine wpList_nil (hK7 _ _ ?_)
  refine wp_ret ?_
  refine ret_val (v := (Fl x)) (res_T rfl (slot rfl)) (Ext.refl w) ?_
  have x8 : cf .f32 x = fmaxG (cf .f32 x) (cf .f32 y) := by first | with_reducible rfl | (simp only [fmaxG, c4]; done) | (simp [fmaxG, c4]; done) | (revert c4; simp +contextual [fmaxG]; done) | (rcases c4' with hh | hh <;> simp only [hh, fmaxG, c4]; done) | (rcases c4' with hh | hh <;> simp_all [fmaxG]; done) | (rcases c4' with hh | hh | hh <;> simp_all [fmaxG]; done) | (rcases c4' with hh | hh | hh | hh <;> simp_all [fmaxG]; done) | (simp_all [fmaxG]; done) | rfl
  exact ⟨x, rfl, x8⟩

/- spec.l04High -/
theorem c_spec_l04High (a : List Value) (A_a : V3) (b : List Value) (A_b : V3) (w : World) (hv_a : RV3 w A_a a) (hv_b : RV3 w A_b b) : Gives Try.prog 54 #[(.agg a.toArray), (.agg b.toArray)] w (fun v w' => ∃ cs_1 : List Value, v = (.agg cs_1.toArray) ∧ RV3 w (vmax A_a A_b) cs_1) := by
  obtain ⟨r1, r3, r5, rfl, h2, h4, h6⟩ := hv_a
  obtain ⟨r7, r9, r11, rfl, h8, h10, h12⟩ := hv_b
  refine enter [(.agg #[(Fl r1), (Fl r3), (Fl r5)]), (.agg #[(Fl r7), (Fl r9), (Fl r11)]), Ud, Ud, Ud, Ud, Ud, Ud, Ud, Ud, Ud, Ud, Ud, Ud, Ud, Ud, Ud, Ud, Ud, Ud, Ud] Try.func54 rfl Try.ntmps54 rfl ?_
  refine wp_seq_k fun K13 hK13 => ?_
  refine wp_region_lit ?_
  refine seqd rfl rfl (does_box (u := (.agg #[(Fl r1), (Fl r3), (Fl r5)])) (ev rfl)) ?_; rintro _ w18 ⟨b14, rfl, hb15, hB16, E17⟩
  have g19 : w.heap.size ≤ b14 := Nat.le_trans (Below.size (Ext.refl w)) hb15
  change Blk _ _ [(Fl r1), (Fl r3), (Fl r5)] at hB16
  have X20 := Ext.gr (Ext.refl w) E17
  show wpList _ _ _ _ (fr [(.agg #[(Fl r1), (Fl r3), (Fl r5)]), (.agg #[(Fl r7), (Fl r9), (Fl r11)]), (Pt b14 0), Ud, Ud, Ud, Ud, Ud, Ud, Ud, Ud, Ud, Ud, Ud, Ud, Ud, Ud, Ud, Ud, Ud, Ud]) _
  refine seqd rfl rfl (does_box (u := (.agg #[(Fl r7), (Fl r9), (Fl r11)])) (ev rfl)) ?_; rintro _ w25 ⟨b21, rfl, hb22, hB23, E24⟩
  have n26 : b14 < b21 := Nat.lt_of_lt_of_le (Blk.lt hB16) hb22
  have g27 : w.heap.size ≤ b21 := Nat.le_trans (Below.size X20) hb22
  change Blk _ _ [(Fl r7), (Fl r9), (Fl r11)] at hB23
  have X28 := Ext.gr X20 E24
  show wpList _ _ _ _ (fr [(.agg #[(Fl r1), (Fl r3), (Fl r5)]), (.agg #[(Fl r7), (Fl r9), (Fl r11)]), (Pt b14 0), (Pt b21 0), Ud, Ud, Ud, Ud, Ud, Ud, Ud, Ud, Ud, Ud, Ud, Ud, Ud, Ud, Ud, Ud, Ud]) _
  refine seqd rfl rfl (does_alloc z26) ?_; rintro _ w33 ⟨b29, rfl, hb30, hB31, E32⟩
  have n34 : b14 < b29 := Nat.lt_of_lt_of_le (Blk.lt (hB16.ext E24)) hb30
  have n35 : b21 < b29 := Nat.lt_of_lt_of_le (Blk.lt hB23) hb30
  have g36 : w.heap.size ≤ b29 := Nat.le_trans (Below.size X28) hb30
  change Blk _ _ [(Fl 0), (Fl 0), (Fl 0)] at hB31
  have X37 := Ext.gr X28 E32
  show wpList _ _ _ _ (fr [(.agg #[(Fl r1), (Fl r3), (Fl r5)]), (.agg #[(Fl r7), (Fl r9), (Fl r11)]), (Pt b14 0), (Pt b21 0), (Pt b29 0), Ud, Ud, Ud, Ud, Ud, Ud, Ud, Ud, Ud, Ud, Ud, Ud, Ud, Ud, Ud, Ud]) _
  refine wpList_nil (hK13 _ _ ?_)
  refine wp_seq_k fun K38 hK38 => ?_
  refine region_draw (
    [Fact.pure [] (fun v => v = (Pt b14 0)),
    Fact.pure [5] (fun v => v = (Fl r1)),
    Fact.pure [] (fun v => v = (Pt b21 0)),
    Fact.pure [7] (fun v => v = (Fl r7)),
    Fact.pure [6, 8] (fun v => ∃ r_1 : Nat, v = (Fl r_1) ∧ cf .f32 r_1 = fmaxG (cf .f32 r1) (cf .f32 r7)),
    Fact.pure [] (fun v => v = (Pt b14 1)),
    Fact.pure [10] (fun v => v = (Fl r3)),
    Fact.pure [] (fun v => v = (Pt b21 1)),
    Fact.pure [12] (fun v => v = (Fl r9)),
    Fact.pure [11, 13] (fun v => ∃ r_1 : Nat, v = (Fl r_1) ∧ cf .f32 r_1 = fmaxG (cf .f32 r3) (cf .f32 r9)),
    Fact.pure [] (fun v => v = (Pt b14 2)),
    Fact.pure [15] (fun v => v = (Fl r5)),
    Fact.pure [] (fun v => v = (Pt b21 2)),
    Fact.pure [17] (fun v => v = (Fl r11)),
    Fact.pure [16, 18] (fun v => ∃ r_1 : Nat, v = (Fl r_1) ∧ cf .f32 r_1 = fmaxG (cf .f32 r5) (cf .f32 r11)),
    Fact.pure [9, 14, 19] (fun v => ∃ r_1 : Nat, ∃ r_2 : Nat, ∃ r_3 : Nat, v = (.agg #[(Fl r_1), (Fl r_2), (Fl r_3)]) ∧ cf .f32 r_1 = fmaxG (cf .f32 r1) (cf .f32 r7) ∧ cf .f32 r_2 = fmaxG (cf .f32 r3) (cf .f32 r9) ∧ cf .f32 r_3 = fmaxG (cf .f32 r5) (cf .f32 r11))]) mixed (by kernel_rfl) (by intro _ _ d _ _ h; cases d <;> exact h) ?_
  obtain ⟨w39, hw41⟩ : ∃ w', w' = World.drew w33 := ⟨_, rfl⟩; rw [← hw41]; have E40 : Ext w33 w39 := by rw [hw41]; exact Ext.draw _
  clear hw41
  have X42 := Ext.gr X37 E40
  refine RW_d (fun v43 => [(.agg #[(Fl r1), (Fl r3), (Fl r5)]), (.agg #[(Fl r7), (Fl r9), (Fl r11)]), (Pt b14 0), (Pt b21 0), (Pt b29 0), v43, Ud, Ud, Ud, Ud, Ud, Ud, Ud, Ud, Ud, Ud, Ud, Ud, Ud, Ud, Ud]) rfl (fun _ => rfl) (fun u hu hF => ?_) (fun v43 => ?_)
  · clear hF
    refine doesG_un rfl ?_
    refine (does_fieldAddr (ev rfl) fa26_0).mono ?_; rintro _ _ ⟨rfl, rfl⟩
    exact ⟨rfl, Ext.refl _⟩
  refine RW_d (fun v44 => [(.agg #[(Fl r1), (Fl r3), (Fl r5)]), (.agg #[(Fl r7), (Fl r9), (Fl r11)]), (Pt b14 0), (Pt b21 0), (Pt b29 0), v43, v44, Ud, Ud, Ud, Ud, Ud, Ud, Ud, Ud, Ud, Ud, Ud, Ud, Ud, Ud]) rfl (fun _ => rfl) (fun u hu hF => ?_) (fun v44 => ?_)
  · have h5_ : v43 = (Pt b14 0) := hF.1
    clear hF
    refine doesG_un rfl ?_
    obtain rfl := h5_
    refine (does_load (u := (Fl r1)) (ev rfl) Try.isAgg24 (Cells.at (Blk.cells ((((hB16.ext E24).ext E32).ext E40).ext hu)) 0 rfl)).mono ?_; rintro _ _ ⟨rfl, rfl⟩
    exact ⟨rfl, Ext.refl _⟩
  refine RW_d (fun v45 => [(.agg #[(Fl r1), (Fl r3), (Fl r5)]), (.agg #[(Fl r7), (Fl r9), (Fl r11)]), (Pt b14 0), (Pt b21 0), (Pt b29 0), v43, v44, v45, Ud, Ud, Ud, Ud, Ud, Ud, Ud, Ud, Ud, Ud, Ud, Ud, Ud]) rfl (fun _ => rfl) (fun u hu hF => ?_) (fun v45 => ?_)
  · clear hF
    refine doesG_un rfl ?_
    refine (does_fieldAddr (ev rfl) fa26_0).mono ?_; rintro _ _ ⟨rfl, rfl⟩
    exact ⟨rfl, Ext.refl _⟩
  refine RW_d (fun v46 => [(.agg #[(Fl r1), (Fl r3), (Fl r5)]), (.agg #[(Fl r7), (Fl r9), (Fl r11)]), (Pt b14 0), (Pt b21 0), (Pt b29 0), v43, v44, v45, v46, Ud, Ud, Ud, Ud, Ud, Ud, Ud, Ud, Ud, Ud, Ud, Ud]) rfl (fun _ => rfl) (fun u hu hF => ?_) (fun v46 => ?_)
  · have h7_ : v45 = (Pt b21 0) := hF.1
    clear hF
    refine doesG_un rfl ?_
    obtain rfl := h7_
    refine (does_load (u := (Fl r7)) (ev rfl) Try.isAgg24 (Cells.at (Blk.cells (((hB23.ext E32).ext E40).ext hu)) 0 rfl)).mono ?_; rintro _ _ ⟨rfl, rfl⟩
    exact ⟨rfl, Ext.refl _⟩
  refine RW_d (fun v47 => [(.agg #[(Fl r1), (Fl r3), (Fl r5)]), (.agg #[(Fl r7), (Fl r9), (Fl r11)]), (Pt b14 0), (Pt b21 0), (Pt b29 0), v43, v44, v45, v46, v47, Ud, Ud, Ud, Ud, Ud, Ud, Ud, Ud, Ud, Ud, Ud]) rfl (fun _ => rfl) (fun u hu hF => ?_) (fun v47 => ?_)
  · have h6_ : v44 = (Fl r1) := hF.1
    have h8_ : v46 = (Fl r7) := hF.2.1
    clear hF
    refine doesG_un rfl ?_
    obtain rfl := h6_
    obtain rfl := h8_
    refine (does_call (args := #[(Fl r1), (Fl r7)]) cal78 (evs rfl) (c_spec_l02Greater r1 r7 _)).mono ?_; rintro v u' ⟨hx, ⟨rn1, hv, k0⟩⟩
    exact ⟨⟨rn1, hv, (by simp only [k0])⟩, hx⟩
  refine RW_d (fun v48 => [(.agg #[(Fl r1), (Fl r3), (Fl r5)]), (.agg #[(Fl r7), (Fl r9), (Fl r11)]), (Pt b14 0), (Pt b21 0), (Pt b29 0), v43, v44, v45, v46, v47, v48, Ud, Ud, Ud, Ud, Ud, Ud, Ud, Ud, Ud, Ud]) rfl (fun _ => rfl) (fun u hu hF => ?_) (fun v48 => ?_)
  · clear hF
    refine doesG_un rfl ?_
    refine (does_fieldAddr (ev rfl) fa26_1).mono ?_; rintro _ _ ⟨rfl, rfl⟩
    exact ⟨rfl, Ext.refl _⟩
  refine RW_d (fun v49 => [(.agg #[(Fl r1), (Fl r3), (Fl r5)]), (.agg #[(Fl r7), (Fl r9), (Fl r11)]), (Pt b14 0), (Pt b21 0), (Pt b29 0), v43, v44, v45, v46, v47, v48, v49, Ud, Ud, Ud, Ud, Ud, Ud, Ud, Ud, Ud]) rfl (fun _ => rfl) (fun u hu hF => ?_) (fun v49 => ?_)
  · have h10_ : v48 = (Pt b14 1) := hF.1
    clear hF
    refine doesG_un rfl ?_
    obtain rfl := h10_
    refine (does_load (u := (Fl r3)) (ev rfl) Try.isAgg24 (Cells.at (Blk.cells ((((hB16.ext E24).ext E32).ext E40).ext hu)) 1 rfl)).mono ?_; rintro _ _ ⟨rfl, rfl⟩
    exact ⟨rfl, Ext.refl _⟩
  refine RW_d (fun v50 => [(.agg #[(Fl r1), (Fl r3), (Fl r5)]), (.agg #[(Fl r7), (Fl r9), (Fl r11)]), (Pt b14 0), (Pt b21 0), (Pt b29 0), v43, v44, v45, v46, v47, v48, v49, v50, Ud, Ud, Ud, Ud, Ud, Ud, Ud, Ud]) rfl (fun _ => rfl) (fun u hu hF => ?_) (fun v50 => ?_)
  · clear hF
    refine doesG_un rfl ?_
    refine (does_fieldAddr (ev rfl) fa26_1).mono ?_; rintro _ _ ⟨rfl, rfl⟩
    exact ⟨rfl, Ext.refl _⟩
  refine RW_d (fun v51 => [(.agg #[(Fl r1), (Fl r3), (Fl r5)]), (.agg #[(Fl r7), (Fl r9), (Fl r11)]), (Pt b14 0), (Pt b21 0), (Pt b29 0), v43, v44, v45, v46, v47, v48, v49, v50, v51, Ud, Ud, Ud, Ud, Ud, Ud, Ud]) rfl (fun _ => rfl) (fun u hu hF => ?_) (fun v51 => ?_)
  · have h12_ : v50 = (Pt b21 1) := hF.1
    clear hF
    refine doesG_un rfl ?_
    obtain rfl := h12_
    refine (does_load (u := (Fl r9)) (ev rfl) Try.isAgg24 (Cells.at (Blk.cells (((hB23.ext E32).ext E40).ext hu)) 1 rfl)).mono ?_; rintro _ _ ⟨rfl, rfl⟩
    exact ⟨rfl, Ext.refl _⟩
  refine RW_d (fun v52 => [(.agg #[(Fl r1), (Fl r3), (Fl r5)]), (.agg #[(Fl r7), (Fl r9), (Fl r11)]), (Pt b14 0), (Pt b21 0), (Pt b29 0), v43, v44, v45, v46, v47, v48, v49, v50, v51, v52, Ud, Ud, Ud, Ud, Ud, Ud]) rfl (fun _ => rfl) (fun u hu hF => ?_) (fun v52 => ?_)
  · have h11_ : v49 = (Fl r3) := hF.1
    have h13_ : v51 = (Fl r9) := hF.2.1
    clear hF
    refine doesG_un rfl ?_
    obtain rfl := h11_
    obtain rfl := h13_
    refine (does_call (args := #[(Fl r3), (Fl r9)]) cal78 (evs rfl) (c_spec_l02Greater r3 r9 _)).mono ?_; rintro v u' ⟨hx, ⟨rn1, hv, k0⟩⟩
    exact ⟨⟨rn1, hv, (by simp only [k0])⟩, hx⟩
  refine RW_d (fun v53 => [(.agg #[(Fl r1), (Fl r3), (Fl r5)]), (.agg #[(Fl r7), (Fl r9), (Fl r11)]), (Pt b14 0), (Pt b21 0), (Pt b29 0), v43, v44, v45, v46, v47, v48, v49, v50, v51, v52, v53, Ud, Ud, Ud, Ud, Ud]) rfl (fun _ => rfl) (fun u hu hF => ?_) (fun v53 => ?_)
  · clear hF
    refine doesG_un rfl ?_
    refine (does_fieldAddr (ev rfl) fa26_2).mono ?_; rintro _ _ ⟨rfl, rfl⟩
    exact ⟨rfl, Ext.refl _⟩
  refine RW_d (fun v54 => [(.agg #[(Fl r1), (Fl r3), (Fl r5)]), (.agg #[(Fl r7), (Fl r9), (Fl r11)]), (Pt b14 0), (Pt b21 0), (Pt b29 0), v43, v44, v45, v46, v47, v48, v49, v50, v51, v52, v53, v54, Ud, Ud, Ud, Ud]) rfl (fun _ => rfl) (fun u hu hF => ?_) (fun v54 => ?_)
  · have h15_ : v53 = (Pt b14 2) := hF.1
    clear hF
    refine doesG_un rfl ?_
    obtain rfl := h15_
    refine (does_load (u := (Fl r5)) (ev rfl) Try.isAgg24 (Cells.at (Blk.cells ((((hB16.ext E24).ext E32).ext E40).ext hu)) 2 rfl)).mono ?_; rintro _ _ ⟨rfl, rfl⟩
    exact ⟨rfl, Ext.refl _⟩
  refine RW_d (fun v55 => [(.agg #[(Fl r1), (Fl r3), (Fl r5)]), (.agg #[(Fl r7), (Fl r9), (Fl r11)]), (Pt b14 0), (Pt b21 0), (Pt b29 0), v43, v44, v45, v46, v47, v48, v49, v50, v51, v52, v53, v54, v55, Ud, Ud, Ud]) rfl (fun _ => rfl) (fun u hu hF => ?_) (fun v55 => ?_)
  · clear hF
    refine doesG_un rfl ?_
    refine (does_fieldAddr (ev rfl) fa26_2).mono ?_; rintro _ _ ⟨rfl, rfl⟩
    exact ⟨rfl, Ext.refl _⟩
  refine RW_d (fun v56 => [(.agg #[(Fl r1), (Fl r3), (Fl r5)]), (.agg #[(Fl r7), (Fl r9), (Fl r11)]), (Pt b14 0), (Pt b21 0), (Pt b29 0), v43, v44, v45, v46, v47, v48, v49, v50, v51, v52, v53, v54, v55, v56, Ud, Ud]) rfl (fun _ => rfl) (fun u hu hF => ?_) (fun v56 => ?_)
  · have h17_ : v55 = (Pt b21 2) := hF.1
    clear hF
    refine doesG_un rfl ?_
    obtain rfl := h17_
    refine (does_load (u := (Fl r11)) (ev rfl) Try.isAgg24 (Cells.at (Blk.cells (((hB23.ext E32).ext E40).ext hu)) 2 rfl)).mono ?_; rintro _ _ ⟨rfl, rfl⟩
    exact ⟨rfl, Ext.refl _⟩
  refine RW_d (fun v57 => [(.agg #[(Fl r1), (Fl r3), (Fl r5)]), (.agg #[(Fl r7), (Fl r9), (Fl r11)]), (Pt b14 0), (Pt b21 0), (Pt b29 0), v43, v44, v45, v46, v47, v48, v49, v50, v51, v52, v53, v54, v55, v56, v57, Ud]) rfl (fun _ => rfl) (fun u hu hF => ?_) (fun v57 => ?_)
  · have h16_ : v54 = (Fl r5) := hF.1
    have h18_ : v56 = (Fl r11) := hF.2.1
    clear hF
    refine doesG_un rfl ?_
    obtain rfl := h16_
    obtain rfl := h18_
    refine (does_call (args := #[(Fl r5), (Fl r11)]) cal78 (evs rfl) (c_spec_l02Greater r5 r11 _)).mono ?_; rintro v u' ⟨hx, ⟨rn1, hv, k0⟩⟩
    exact ⟨⟨rn1, hv, (by simp only [k0])⟩, hx⟩
  refine RW_d (fun v58 => [(.agg #[(Fl r1), (Fl r3), (Fl r5)]), (.agg #[(Fl r7), (Fl r9), (Fl r11)]), (Pt b14 0), (Pt b21 0), (Pt b29 0), v43, v44, v45, v46, v47, v48, v49, v50, v51, v52, v53, v54, v55, v56, v57, v58]) rfl (fun _ => rfl) (fun u hu hF => ?_) (fun v58 => ?_)
  · have h9_ : ∃ r_1 : Nat, v47 = (Fl r_1) ∧ cf .f32 r_1 = fmaxG (cf .f32 r1) (cf .f32 r7) := hF.1
    have h14_ : ∃ r_1 : Nat, v52 = (Fl r_1) ∧ cf .f32 r_1 = fmaxG (cf .f32 r3) (cf .f32 r9) := hF.2.1
    have h19_ : ∃ r_1 : Nat, v57 = (Fl r_1) ∧ cf .f32 r_1 = fmaxG (cf .f32 r5) (cf .f32 r11) := hF.2.2.1
    clear hF
    refine doesG_un rfl ?_
    obtain ⟨r9_1, rfl, h9_2⟩ := h9_
    obtain ⟨r14_1, rfl, h14_2⟩ := h14_
    obtain ⟨r19_1, rfl, h19_2⟩ := h19_
    refine (does_build (parts' := [(0, (Fl r9_1)), (1, (Fl r14_1)), (2, (Fl r19_1))]) (cells := #[(Fl r9_1), (Fl r14_1), (Fl r19_1)]) (evp rfl) (by kernel_rfl)).mono ?_; rintro _ _ ⟨rfl, rfl⟩
    exact ⟨⟨r9_1, r14_1, r19_1, rfl, (by simp only [h9_2, h14_2, h19_2]), (by simp only [h9_2, h14_2, h19_2]), (by simp only [h9_2, h14_2, h19_2])⟩, Ext.refl _⟩
  refine RW_fin ?_; intro w59 E60 hP61
  obtain ⟨⟨⟨⟨⟨⟨⟨⟨⟨⟨⟨⟨⟨⟨⟨⟨-, -⟩, -⟩, -⟩, -⟩, -⟩, -⟩, -⟩, -⟩, -⟩, -⟩, -⟩, -⟩, -⟩, -⟩, -⟩, q62⟩ := hP61
  have X63 := Ext.gr X42 E60
  have q62 : ∃ r_1 : Nat, ∃ r_2 : Nat, ∃ r_3 : Nat, v58 = (.agg #[(Fl r_1), (Fl r_2), (Fl r_3)]) ∧ cf .f32 r_1 = fmaxG (cf .f32 r1) (cf .f32 r7) ∧ cf .f32 r_2 = fmaxG (cf .f32 r3) (cf .f32 r9) ∧ cf .f32 r_3 = fmaxG (cf .f32 r5) (cf .f32 r11) := q62
  obtain ⟨r64, r66, r68, rfl, h65, h67, h69⟩ := q62
  show wpList _ _ _ _ (fr [(.agg #[(Fl r1), (Fl r3), (Fl r5)]), (.agg #[(Fl r7), (Fl r9), (Fl r11)]), (Pt b14 0), (Pt b21 0), (Pt b29 0), v43, v44, v45, v46, v47, v48, v49, v50, v51, v52, v53, v54, v55, v56, v57, (.agg #[(Fl r64), (Fl r66), (Fl r68)])]) _
  refine seqn rfl rfl (does_store (n := 3) (cs := [(Fl 0), (Fl 0), (Fl 0)]) (u := (.agg #[(Fl r64), (Fl r66), (Fl r68)])) (ev rfl) (ev rfl) Try.sizeOf26 rfl ((hB31.ext E40).ext E60) (Nat.le_of_ble_eq_true rfl) rfl) ?_; rintro _ w72 ⟨rfl, W70, hB71⟩
  change Blk _ _ [(Fl r64), (Fl r66), (Fl r68)] at hB71
  have X73 := Below.wr X63 W70 g36
  refine wpList_nil (hK38 _ _ ?_)
  refine wp_ret ?_
  refine ret_val (v := (.agg #[(Fl r64), (Fl r66), (Fl r68)])) (res_C rfl (slot rfl) (run_loadAgg (cs := [(Fl r64), (Fl r66), (Fl r68)]) Try.isAgg26 Try.sizeOf26 (Blk.cells hB71) rfl)) X73 ?_
  have x74 : cf .f32 r64 = (vmax A_a A_b).x := by first | with_reducible rfl | (simp only [vmax, h2, h4, h6, h8, h10, h12, h65, h67, h69]; done) | (simp [vmax, h2, h4, h6, h8, h10, h12, h65, h67, h69]; done) | rfl
  have x75 : cf .f32 r66 = (vmax A_a A_b).y := by first | with_reducible rfl | (simp only [vmax, h2, h4, h6, h8, h10, h12, h65, h67, h69]; done) | (simp [vmax, h2, h4, h6, h8, h10, h12, h65, h67, h69]; done) | rfl
  have x76 : cf .f32 r68 = (vmax A_a A_b).z := by first | with_reducible rfl | (simp only [vmax, h2, h4, h6, h8, h10, h12, h65, h67, h69]; done) | (simp [vmax, h2, h4, h6, h8, h10, h12, h65, h67, h69]; done) | rfl
  exact ⟨[(Fl r64), (Fl r66), (Fl r68)], rfl, ⟨r64, r66, r68, rfl, x74, x75, x76⟩⟩

/- spec.BoxAround -/
theorem c_spec_BoxAround (pts : Value) (L_pts : List V3) (w : World) (hv_pts : Sl RV3 3 w pts L_pts) : Gives Try.prog 14 #[pts] w (fun v w' => ∃ cs_1 : List Value, v = (.tuple #[(.agg cs_1.toArray), (Bo (bxOk L_pts))]) ∧ RBx w (gvA zB (bxOk L_pts) (boxTo L_pts L_pts.length)) cs_1) := by
  have hlen_pts := Sl.len hv_pts; obtain ⟨p_pts, q_pts, rfl⟩ := Sl.shape hv_pts
  refine enter [(.slice p_pts L_pts.length q_pts), Ud, Ud, Ud, Ud, Ud, Ud, Ud, Ud, Ud, Ud, Ud, Ud, Ud, Ud, Ud, Ud, Ud, Ud, Ud, Ud, Ud, Ud, Ud, Ud, Ud, Ud, Ud, Ud, Ud, Ud, Ud, Ud, Ud, Ud, Ud, Ud, Ud, Ud, Ud, Ud, Ud, Ud, Ud, Ud, Ud, Ud, Ud, Ud, Ud, Ud, Ud] Try.func14 rfl Try.ntmps14 rfl ?_
  refine wp_seq_k fun K1 hK1 => ?_
  refine wp_region_lit ?_
  refine seqd rfl rfl (does_alloc z28) ?_; rintro _ w6 ⟨b2, rfl, hb3, hB4, E5⟩
  have g7 : w.heap.size ≤ b2 := Nat.le_trans (Below.size (Ext.refl w)) hb3
  change Blk _ _ [(Fl 0), (Fl 0), (Fl 0), (Fl 0), (Fl 0), (Fl 0)] at hB4
  have X8 := Ext.gr (Ext.refl w) E5
  show wpList _ _ _ _ (fr [(.slice p_pts L_pts.length q_pts), Ud, (Pt b2 0), Ud, Ud, Ud, Ud, Ud, Ud, Ud, Ud, Ud, Ud, Ud, Ud, Ud, Ud, Ud, Ud, Ud, Ud, Ud, Ud, Ud, Ud, Ud, Ud, Ud, Ud, Ud, Ud, Ud, Ud, Ud, Ud, Ud, Ud, Ud, Ud, Ud, Ud, Ud, Ud, Ud, Ud, Ud, Ud, Ud, Ud, Ud, Ud, Ud]) _
  refine q_is (l' := [(.slice p_pts L_pts.length q_pts), Ud, (Pt b2 0), (Bo false), Ud, Ud, Ud, Ud, Ud, Ud, Ud, Ud, Ud, Ud, Ud, Ud, Ud, Ud, Ud, Ud, Ud, Ud, Ud, Ud, Ud, Ud, Ud, Ud, Ud, Ud, Ud, Ud, Ud, Ud, Ud, Ud, Ud, Ud, Ud, Ud, Ud, Ud, Ud, Ud, Ud, Ud, Ud, Ud, Ud, Ud, Ud, Ud]) rfl rfl (does_assign (u := (Bo false)) (ev rfl)) rfl ?_
  refine wpList_nil (hK1 _ _ ?_)
  refine wp_seq_k fun K9 hK9 => ?_
  refine wp_seq_k fun K10 hK10 => ?_
  obtain ⟨β1, hβ1⟩ : ∃ b : Bool, b = (icmp .lss (L_pts.length : Int) 1) := ⟨_, rfl⟩
  obtain ⟨β2, hβ2⟩ : ∃ b : Bool, b = (icmp .gtr (L_pts.length : Int) 256) := ⟨_, rfl⟩
  refine region_text (
    [Fact.pure [] (fun v => v = (.slice p_pts L_pts.length q_pts)),
    Fact.pure [6] (fun v => v = (Iv (L_pts.length : Int))),
    Fact.pure [7] (fun v => v = (Bo β1)),
    Fact.pure [8] (fun v => v = (Bo β1)),
    Fact.pure [9] (fun v => β1 = false → v = (.slice p_pts L_pts.length q_pts)),
    Fact.pure [10, 9] (fun v => β1 = false → v = (Iv (L_pts.length : Int))),
    Fact.pure [11, 9] (fun v => β1 = false → v = (Bo β2)),
    Fact.pure [9, 12] (fun v => v = (Bo (β1 || β2)))]) (by simp [Fact.pure, Fact.mem]) ?_
  refine RW_d (fun v11 => [(.slice p_pts L_pts.length q_pts), Ud, (Pt b2 0), (Bo false), Ud, Ud, v11, Ud, Ud, Ud, Ud, Ud, Ud, Ud, Ud, Ud, Ud, Ud, Ud, Ud, Ud, Ud, Ud, Ud, Ud, Ud, Ud, Ud, Ud, Ud, Ud, Ud, Ud, Ud, Ud, Ud, Ud, Ud, Ud, Ud, Ud, Ud, Ud, Ud, Ud, Ud, Ud, Ud, Ud, Ud, Ud, Ud]) rfl (fun _ => rfl) (fun u hu hF => ?_) (fun v11 => ?_)
  · clear hF
    refine doesG_un rfl ?_
    refine (does_move (u := (.slice p_pts L_pts.length q_pts)) (ev rfl)).mono ?_; rintro _ _ ⟨rfl, rfl⟩
    exact ⟨rfl, Ext.refl _⟩
  refine RW_d (fun v12 => [(.slice p_pts L_pts.length q_pts), Ud, (Pt b2 0), (Bo false), Ud, Ud, v11, v12, Ud, Ud, Ud, Ud, Ud, Ud, Ud, Ud, Ud, Ud, Ud, Ud, Ud, Ud, Ud, Ud, Ud, Ud, Ud, Ud, Ud, Ud, Ud, Ud, Ud, Ud, Ud, Ud, Ud, Ud, Ud, Ud, Ud, Ud, Ud, Ud, Ud, Ud, Ud, Ud, Ud, Ud, Ud, Ud]) rfl (fun _ => rfl) (fun u hu hF => ?_) (fun v12 => ?_)
  · have h6_ : v11 = (.slice p_pts L_pts.length q_pts) := hF.1
    clear hF
    refine doesG_un rfl ?_
    obtain rfl := h6_
    refine (does_len_slice Try.underlying31 (ev rfl)).mono ?_; rintro _ _ ⟨rfl, rfl⟩
    exact ⟨rfl, Ext.refl _⟩
  refine RW_d (fun v13 => [(.slice p_pts L_pts.length q_pts), Ud, (Pt b2 0), (Bo false), Ud, Ud, v11, v12, v13, Ud, Ud, Ud, Ud, Ud, Ud, Ud, Ud, Ud, Ud, Ud, Ud, Ud, Ud, Ud, Ud, Ud, Ud, Ud, Ud, Ud, Ud, Ud, Ud, Ud, Ud, Ud, Ud, Ud, Ud, Ud, Ud, Ud, Ud, Ud, Ud, Ud, Ud, Ud, Ud, Ud, Ud, Ud]) rfl (fun _ => rfl) (fun u hu hF => ?_) (fun v13 => ?_)
  · have h7_ : v12 = (Iv (L_pts.length : Int)) := hF.1
    clear hF
    refine doesG_un rfl ?_
    obtain rfl := h7_
    refine (does_icmp (p := (L_pts.length : Int)) (q := 1) (.inr (.inr (.inl rfl))) (ev rfl) (ev rfl)).mono ?_; rintro _ _ ⟨rfl, rfl⟩
    exact ⟨(by first | rfl | (show _ = _; simp only [hβ1])), Ext.refl _⟩
  refine RW_d (fun v14 => [(.slice p_pts L_pts.length q_pts), Ud, (Pt b2 0), (Bo false), Ud, Ud, v11, v12, v13, v14, Ud, Ud, Ud, Ud, Ud, Ud, Ud, Ud, Ud, Ud, Ud, Ud, Ud, Ud, Ud, Ud, Ud, Ud, Ud, Ud, Ud, Ud, Ud, Ud, Ud, Ud, Ud, Ud, Ud, Ud, Ud, Ud, Ud, Ud, Ud, Ud, Ud, Ud, Ud, Ud, Ud, Ud]) rfl (fun _ => rfl) (fun u hu hF => ?_) (fun v14 => ?_)
  · have h8_ : v13 = (Bo β1) := hF.1
    clear hF
    refine doesG_un rfl ?_
    obtain rfl := h8_
    refine (does_move (u := (Bo β1)) (ev rfl)).mono ?_; rintro _ _ ⟨rfl, rfl⟩
    exact ⟨rfl, Ext.refl _⟩
  refine RW_d (fun v15 => [(.slice p_pts L_pts.length q_pts), Ud, (Pt b2 0), (Bo false), Ud, Ud, v11, v12, v13, v14, v15, Ud, Ud, Ud, Ud, Ud, Ud, Ud, Ud, Ud, Ud, Ud, Ud, Ud, Ud, Ud, Ud, Ud, Ud, Ud, Ud, Ud, Ud, Ud, Ud, Ud, Ud, Ud, Ud, Ud, Ud, Ud, Ud, Ud, Ud, Ud, Ud, Ud, Ud, Ud, Ud, Ud]) rfl (fun _ => rfl) (fun u hu hF => ?_) (fun v15 => ?_)
  · have h9_ : v14 = (Bo β1) := hF.1
    clear hF
    obtain rfl := h9_
    refine doesG_g (b := β1) rfl (yld rfl rfl) (fun hg1 => ?_) (fun hc => ⟨fun hg1 => absurd hg1 hc, Ext.refl _⟩)
    refine (does_move (u := (.slice p_pts L_pts.length q_pts)) (ev rfl)).mono ?_; rintro _ _ ⟨rfl, rfl⟩
    exact ⟨fun _ => rfl, Ext.refl _⟩
  refine RW_d (fun v16 => [(.slice p_pts L_pts.length q_pts), Ud, (Pt b2 0), (Bo false), Ud, Ud, v11, v12, v13, v14, v15, v16, Ud, Ud, Ud, Ud, Ud, Ud, Ud, Ud, Ud, Ud, Ud, Ud, Ud, Ud, Ud, Ud, Ud, Ud, Ud, Ud, Ud, Ud, Ud, Ud, Ud, Ud, Ud, Ud, Ud, Ud, Ud, Ud, Ud, Ud, Ud, Ud, Ud, Ud, Ud, Ud]) rfl (fun _ => rfl) (fun u hu hF => ?_) (fun v16 => ?_)
  · have h10_ : β1 = false → v15 = (.slice p_pts L_pts.length q_pts) := hF.1
    have h9_ : v14 = (Bo β1) := hF.2.1
    clear hF
    obtain rfl := h9_
    refine doesG_g (b := β1) rfl (yld rfl rfl) (fun hg1 => ?_) (fun hc => ⟨fun hg1 => absurd hg1 hc, Ext.refl _⟩)
    obtain rfl := h10_ hg1
    refine (does_len_slice Try.underlying31 (ev rfl)).mono ?_; rintro _ _ ⟨rfl, rfl⟩
    exact ⟨fun _ => rfl, Ext.refl _⟩
  refine RW_d (fun v17 => [(.slice p_pts L_pts.length q_pts), Ud, (Pt b2 0), (Bo false), Ud, Ud, v11, v12, v13, v14, v15, v16, v17, Ud, Ud, Ud, Ud, Ud, Ud, Ud, Ud, Ud, Ud, Ud, Ud, Ud, Ud, Ud, Ud, Ud, Ud, Ud, Ud, Ud, Ud, Ud, Ud, Ud, Ud, Ud, Ud, Ud, Ud, Ud, Ud, Ud, Ud, Ud, Ud, Ud, Ud, Ud]) rfl (fun _ => rfl) (fun u hu hF => ?_) (fun v17 => ?_)
  · have h11_ : β1 = false → v16 = (Iv (L_pts.length : Int)) := hF.1
    have h9_ : v14 = (Bo β1) := hF.2.1
    clear hF
    obtain rfl := h9_
    refine doesG_g (b := β1) rfl (yld rfl rfl) (fun hg1 => ?_) (fun hc => ⟨fun hg1 => absurd hg1 hc, Ext.refl _⟩)
    obtain rfl := h11_ hg1
    refine (does_icmp (p := (L_pts.length : Int)) (q := 256) (.inr (.inr (.inr (.inr (.inl rfl))))) (ev rfl) (ev rfl)).mono ?_; rintro _ _ ⟨rfl, rfl⟩
    exact ⟨fun _ => (by first | rfl | (show _ = _; simp only [hβ2])), Ext.refl _⟩
  refine RW_d (fun v18 => [(.slice p_pts L_pts.length q_pts), Ud, (Pt b2 0), (Bo false), Ud, Ud, v11, v12, v13, v14, v15, v16, v17, v18, Ud, Ud, Ud, Ud, Ud, Ud, Ud, Ud, Ud, Ud, Ud, Ud, Ud, Ud, Ud, Ud, Ud, Ud, Ud, Ud, Ud, Ud, Ud, Ud, Ud, Ud, Ud, Ud, Ud, Ud, Ud, Ud, Ud, Ud, Ud, Ud, Ud, Ud]) rfl (fun _ => rfl) (fun u hu hF => ?_) (fun v18 => ?_)
  · have h9_ : v14 = (Bo β1) := hF.1
    have h12_ : β1 = false → v17 = (Bo β2) := hF.2.1
    clear hF
    refine doesG_un rfl ?_
    skip
    obtain rfl := h9_
    refine (does_pick (b := β1) (ev rfl) (ev rfl) (ev rfl)).mono ?_; rintro _ _ ⟨rfl, rfl⟩; refine ⟨?_, Ext.refl _⟩; skip
    cases hbb : β1 <;> simp [hbb] at h12_ ⊢
    all_goals (first | rfl | (subst h12_; rfl) | simp_all)
  refine RW_fin ?_; intro w19 E20 hP21
  obtain ⟨⟨⟨⟨⟨⟨⟨⟨-, -⟩, -⟩, -⟩, -⟩, -⟩, -⟩, -⟩, q22⟩ := hP21
  have X23 := Ext.gr X8 E20
  have q22 : v18 = (Bo (β1 || β2)) := q22
  obtain rfl := q22
  show wpList _ _ _ _ (fr [(.slice p_pts L_pts.length q_pts), Ud, (Pt b2 0), (Bo false), Ud, Ud, v11, v12, v13, v14, v15, v16, v17, (Bo (β1 || β2)), Ud, Ud, Ud, Ud, Ud, Ud, Ud, Ud, Ud, Ud, Ud, Ud, Ud, Ud, Ud, Ud, Ud, Ud, Ud, Ud, Ud, Ud, Ud, Ud, Ud, Ud, Ud, Ud, Ud, Ud, Ud, Ud, Ud, Ud, Ud, Ud, Ud, Ud]) _
  refine wpList_nil (hK10 _ _ ?_)
  refine wp_cond_split (t := β1 || β2) (ev rfl) (fun c24 => ?_) (fun c24 => ?_)
  · have c24' := c24
    (try simp only [hβ1, hβ2, inI] at c24')
    (try simp only [hβ1, hβ2] at c24')
    (try simp only [icmp, Bool.and_eq_true, Bool.or_eq_true, Bool.and_eq_false_iff, Bool.or_eq_false_iff, Bool.not_eq_true', Bool.not_eq_false', decide_eq_true_eq, decide_eq_false_iff_not, beq_iff_eq, bne_iff_ne, beq_eq_false_iff_ne, bne_eq_false_iff_eq] at c24')
    refine wp_seq_k fun K25 hK25 => ?_
    refine wp_region_lit ?_
    refine q_is (l' := [(.slice p_pts L_pts.length q_pts), Ud, (Pt b2 0), (Bo false), Ud, Ud, v11, v12, v13, v14, v15, v16, v17, (Bo (β1 || β2)), (.agg #[(Fl 0), (Fl 0), (Fl 0), (Fl 0), (Fl 0), (Fl 0)]), Ud, Ud, Ud, Ud, Ud, Ud, Ud, Ud, Ud, Ud, Ud, Ud, Ud, Ud, Ud, Ud, Ud, Ud, Ud, Ud, Ud, Ud, Ud, Ud, Ud, Ud, Ud, Ud, Ud, Ud, Ud, Ud, Ud, Ud, Ud, Ud, Ud]) rfl rfl (does_build (parts' := []) (cells := #[(Fl 0), (Fl 0), (Fl 0), (Fl 0), (Fl 0), (Fl 0)]) (evp rfl) (by kernel_rfl)) rfl ?_
    refine seqn rfl rfl (does_store (n := 6) (cs := [(Fl 0), (Fl 0), (Fl 0), (Fl 0), (Fl 0), (Fl 0)]) (u := (.agg #[(Fl 0), (Fl 0), (Fl 0), (Fl 0), (Fl 0), (Fl 0)])) (ev rfl) (ev rfl) Try.sizeOf28 rfl (hB4.ext E20) (Nat.le_of_ble_eq_true rfl) rfl) ?_; rintro _ w28 ⟨rfl, W26, hB27⟩
    change Blk _ _ [(Fl 0), (Fl 0), (Fl 0), (Fl 0), (Fl 0), (Fl 0)] at hB27
    have X29 := Below.wr X23 W26 g7
    refine q_is (l' := [(.slice p_pts L_pts.length q_pts), Ud, (Pt b2 0), (Bo false), Ud, Ud, v11, v12, v13, v14, v15, v16, v17, (Bo (β1 || β2)), (.agg #[(Fl 0), (Fl 0), (Fl 0), (Fl 0), (Fl 0), (Fl 0)]), Ud, Ud, Ud, Ud, Ud, Ud, Ud, Ud, Ud, Ud, Ud, Ud, Ud, Ud, Ud, Ud, Ud, Ud, Ud, Ud, Ud, Ud, Ud, Ud, Ud, Ud, Ud, Ud, Ud, Ud, Ud, Ud, Ud, Ud, Ud, Ud, Ud]) rfl rfl (does_assign (u := (Bo false)) (ev rfl)) rfl ?_
    refine wpList_nil (hK25 _ _ ?_)
    refine wp_ret ?_
    dsimp only [Exit.then, Exit.inBlock]
    refine ret_val (v := (.tuple #[(.agg #[(Fl 0), (Fl 0), (Fl 0), (Fl 0), (Fl 0), (Fl 0)]), (Bo false)])) (res_CT rfl (slot rfl) (run_loadAgg (cs := [(Fl 0), (Fl 0), (Fl 0), (Fl 0), (Fl 0), (Fl 0)]) Try.isAgg28 Try.sizeOf28 (Blk.cells hB27) rfl) (slot rfl)) X29 ?_
    try simp only [hβ1, hβ2] at c24
    have x30 : (bxOk L_pts) = false := by first | exact bxOk_len (by assumption) | exact bxOk_len2 (by assumption) | exact bxOk_bad (by assumption) (by assumption) | exact bxOk_ok1 (by assumption) hal (by omega) | exact bxOk_ok2 (by assumption) hal (by omega) | (rw [bxOk_len (by assumption)]; simp only [gvA_f, zB, zV]; done) | (rw [bxOk_len2 (by assumption)]; simp only [gvA_f, zB, zV]; done) | (rw [bxOk_bad (by assumption) (by assumption)]; simp only [gvA_f, zB, zV]; done) | (rw [bxOk_ok1 (by assumption) hal (by omega), gvA_t, show L_pts.length = k by omega]; assumption) | (rw [bxOk_ok2 (by assumption) hal (by omega), gvA_t, show L_pts.length = k by omega]; assumption)
    have x31 : cf .f32 0 = (gvA zB (bxOk L_pts) (boxTo L_pts L_pts.length)).lo.x := by first | exact bxOk_len (by assumption) | exact bxOk_len2 (by assumption) | exact bxOk_bad (by assumption) (by assumption) | exact bxOk_ok1 (by assumption) hal (by omega) | exact bxOk_ok2 (by assumption) hal (by omega) | (rw [bxOk_len (by assumption)]; simp only [gvA_f, zB, zV]; done) | (rw [bxOk_len2 (by assumption)]; simp only [gvA_f, zB, zV]; done) | (rw [bxOk_bad (by assumption) (by assumption)]; simp only [gvA_f, zB, zV]; done) | (rw [bxOk_ok1 (by assumption) hal (by omega), gvA_t, show L_pts.length = k by omega]; assumption) | (rw [bxOk_ok2 (by assumption) hal (by omega), gvA_t, show L_pts.length = k by omega]; assumption)
    have x32 : cf .f32 0 = (gvA zB (bxOk L_pts) (boxTo L_pts L_pts.length)).lo.y := by first | exact bxOk_len (by assumption) | exact bxOk_len2 (by assumption) | exact bxOk_bad (by assumption) (by assumption) | exact bxOk_ok1 (by assumption) hal (by omega) | exact bxOk_ok2 (by assumption) hal (by omega) | (rw [bxOk_len (by assumption)]; simp only [gvA_f, zB, zV]; done) | (rw [bxOk_len2 (by assumption)]; simp only [gvA_f, zB, zV]; done) | (rw [bxOk_bad (by assumption) (by assumption)]; simp only [gvA_f, zB, zV]; done) | (rw [bxOk_ok1 (by assumption) hal (by omega), gvA_t, show L_pts.length = k by omega]; assumption) | (rw [bxOk_ok2 (by assumption) hal (by omega), gvA_t, show L_pts.length = k by omega]; assumption)
    have x33 : cf .f32 0 = (gvA zB (bxOk L_pts) (boxTo L_pts L_pts.length)).lo.z := by first | exact bxOk_len (by assumption) | exact bxOk_len2 (by assumption) | exact bxOk_bad (by assumption) (by assumption) | exact bxOk_ok1 (by assumption) hal (by omega) | exact bxOk_ok2 (by assumption) hal (by omega) | (rw [bxOk_len (by assumption)]; simp only [gvA_f, zB, zV]; done) | (rw [bxOk_len2 (by assumption)]; simp only [gvA_f, zB, zV]; done) | (rw [bxOk_bad (by assumption) (by assumption)]; simp only [gvA_f, zB, zV]; done) | (rw [bxOk_ok1 (by assumption) hal (by omega), gvA_t, show L_pts.length = k by omega]; assumption) | (rw [bxOk_ok2 (by assumption) hal (by omega), gvA_t, show L_pts.length = k by omega]; assumption)
    have x34 : cf .f32 0 = (gvA zB (bxOk L_pts) (boxTo L_pts L_pts.length)).hi.x := by first | exact bxOk_len (by assumption) | exact bxOk_len2 (by assumption) | exact bxOk_bad (by assumption) (by assumption) | exact bxOk_ok1 (by assumption) hal (by omega) | exact bxOk_ok2 (by assumption) hal (by omega) | (rw [bxOk_len (by assumption)]; simp only [gvA_f, zB, zV]; done) | (rw [bxOk_len2 (by assumption)]; simp only [gvA_f, zB, zV]; done) | (rw [bxOk_bad (by assumption) (by assumption)]; simp only [gvA_f, zB, zV]; done) | (rw [bxOk_ok1 (by assumption) hal (by omega), gvA_t, show L_pts.length = k by omega]; assumption) | (rw [bxOk_ok2 (by assumption) hal (by omega), gvA_t, show L_pts.length = k by omega]; assumption)
    have x35 : cf .f32 0 = (gvA zB (bxOk L_pts) (boxTo L_pts L_pts.length)).hi.y := by first | exact bxOk_len (by assumption) | exact bxOk_len2 (by assumption) | exact bxOk_bad (by assumption) (by assumption) | exact bxOk_ok1 (by assumption) hal (by omega) | exact bxOk_ok2 (by assumption) hal (by omega) | (rw [bxOk_len (by assumption)]; simp only [gvA_f, zB, zV]; done) | (rw [bxOk_len2 (by assumption)]; simp only [gvA_f, zB, zV]; done) | (rw [bxOk_bad (by assumption) (by assumption)]; simp only [gvA_f, zB, zV]; done) | (rw [bxOk_ok1 (by assumption) hal (by omega), gvA_t, show L_pts.length = k by omega]; assumption) | (rw [bxOk_ok2 (by assumption) hal (by omega), gvA_t, show L_pts.length = k by omega]; assumption)
    have x36 : cf .f32 0 = (gvA zB (bxOk L_pts) (boxTo L_pts L_pts.length)).hi.z := by first | exact bxOk_len (by assumption) | exact bxOk_len2 (by assumption) | exact bxOk_bad (by assumption) (by assumption) | exact bxOk_ok1 (by assumption) hal (by omega) | exact bxOk_ok2 (by assumption) hal (by omega) | (rw [bxOk_len (by assumption)]; simp only [gvA_f, zB, zV]; done) | (rw [bxOk_len2 (by assumption)]; simp only [gvA_f, zB, zV]; done) | (rw [bxOk_bad (by assumption) (by assumption)]; simp only [gvA_f, zB, zV]; done) | (rw [bxOk_ok1 (by assumption) hal (by omega), gvA_t, show L_pts.length = k by omega]; assumption) | (rw [bxOk_ok2 (by assumption) hal (by omega), gvA_t, show L_pts.length = k by omega]; assumption)
    exact ⟨[(Fl 0), (Fl 0), (Fl 0), (Fl 0), (Fl 0), (Fl 0)], (by first | rfl | rw [x30]), ⟨0, 0, 0, 0, 0, 0, rfl, x31, x32, x33, x34, x35, x36⟩⟩
  have c24' := c24
  (try simp only [hβ1, hβ2, inI] at c24')
  (try simp only [hβ1, hβ2] at c24')
  (try simp only [icmp, Bool.and_eq_true, Bool.or_eq_true, Bool.and_eq_false_iff, Bool.or_eq_false_iff, Bool.not_eq_true', Bool.not_eq_false', decide_eq_true_eq, decide_eq_false_iff_not, beq_iff_eq, bne_iff_ne, beq_eq_false_iff_ne, bne_eq_false_iff_eq] at c24')
  refine wp_skip (hK9 _ _ ?_)
  refine wp_seq_k fun K37 hK37 => ?_
  obtain ⟨el1, hel1⟩ : ∃ e, L_pts[0]? = some e := ⟨_, List.getElem?_eq_getElem (by omega)⟩
  refine region_draw (
    [Fact.pure [] (fun v => v = (.slice p_pts L_pts.length q_pts)),
    Fact.mem [15] (fun v w' => PtrR RV3 w' v el1) (by intro v w1 w2 hx h; exact h.ext RV3.mono hx),
    Fact.pure [16] (fun v => ∃ cs_1 : List Value, v = (.agg cs_1.toArray) ∧ RV3 w el1 cs_1),
    Fact.pure [] (fun v => v = (.slice p_pts L_pts.length q_pts)),
    Fact.mem [18] (fun v w' => PtrR RV3 w' v el1) (by intro v w1 w2 hx h; exact h.ext RV3.mono hx),
    Fact.pure [19] (fun v => ∃ cs_1 : List Value, v = (.agg cs_1.toArray) ∧ RV3 w el1 cs_1),
    Fact.pure [17, 20] (fun v => ∃ r_1 : Nat, ∃ r_2 : Nat, ∃ r_3 : Nat, ∃ r_4 : Nat, ∃ r_5 : Nat, ∃ r_6 : Nat, v = (.agg #[(Fl r_1), (Fl r_2), (Fl r_3), (Fl r_4), (Fl r_5), (Fl r_6)]) ∧ cf .f32 r_1 = el1.x ∧ cf .f32 r_2 = el1.y ∧ cf .f32 r_3 = el1.z ∧ cf .f32 r_4 = el1.x ∧ cf .f32 r_5 = el1.y ∧ cf .f32 r_6 = el1.z),
    Fact.mem [] (fun v w' => ∃ b : Nat, v = .pointer (some ⟨b, 0, none⟩) ∧ w19.heap.size ≤ b ∧ Blk w' b [(Fl 0), (Fl 0), (Fl 0), (Fl 0), (Fl 0), (Fl 0)]) (by rintro v w1 w2 hx ⟨b, rfl, hb, hB⟩; exact ⟨b, rfl, hb, (hB.ext hx)⟩)]) mixed (by kernel_rfl) (by intro _ _ d _ _ h; cases d <;> exact h) ?_
  obtain ⟨w38, hw40⟩ : ∃ w', w' = World.drew w19 := ⟨_, rfl⟩; rw [← hw40]; have E39 : Ext w19 w38 := by rw [hw40]; exact Ext.draw _
  clear hw40
  have X41 := Ext.gr X23 E39
  refine RW_d (fun v42 => [(.slice p_pts L_pts.length q_pts), Ud, (Pt b2 0), (Bo false), Ud, Ud, v11, v12, v13, v14, v15, v16, v17, (Bo (β1 || β2)), Ud, v42, Ud, Ud, Ud, Ud, Ud, Ud, Ud, Ud, Ud, Ud, Ud, Ud, Ud, Ud, Ud, Ud, Ud, Ud, Ud, Ud, Ud, Ud, Ud, Ud, Ud, Ud, Ud, Ud, Ud, Ud, Ud, Ud, Ud, Ud, Ud, Ud]) rfl (fun _ => rfl) (fun u hu hF => ?_) (fun v42 => ?_)
  · clear hF
    refine doesG_un rfl ?_
    refine (does_move (u := (.slice p_pts L_pts.length q_pts)) (ev rfl)).mono ?_; rintro _ _ ⟨rfl, rfl⟩
    exact ⟨rfl, Ext.refl _⟩
  refine RW_d (fun v43 => [(.slice p_pts L_pts.length q_pts), Ud, (Pt b2 0), (Bo false), Ud, Ud, v11, v12, v13, v14, v15, v16, v17, (Bo (β1 || β2)), Ud, v42, v43, Ud, Ud, Ud, Ud, Ud, Ud, Ud, Ud, Ud, Ud, Ud, Ud, Ud, Ud, Ud, Ud, Ud, Ud, Ud, Ud, Ud, Ud, Ud, Ud, Ud, Ud, Ud, Ud, Ud, Ud, Ud, Ud, Ud, Ud, Ud]) rfl (fun _ => rfl) (fun u hu hF => ?_) (fun v43 => ?_)
  · have h15_ : v42 = (.slice p_pts L_pts.length q_pts) := hF.1
    clear hF
    refine doesG_un rfl ?_
    obtain rfl := h15_
    refine (does_indexSl (R := RV3) (i := 0) (xs := L_pts) (e := el1) Try.underlying31 Try.sizeOf26 (ev rfl) (ev rfl) (Sl.ext (Sl.ext hv_pts RV3.mono (Ext.gr X23 E39)) RV3.mono hu) (by omega) hel1).mono ?_; rintro v u' ⟨b, of, cs, hv, hc, hR, hu'⟩; subst hu'
    exact ⟨⟨b, of, cs, hv, hc, hR⟩, Ext.refl _⟩
  refine RW_d (fun v44 => [(.slice p_pts L_pts.length q_pts), Ud, (Pt b2 0), (Bo false), Ud, Ud, v11, v12, v13, v14, v15, v16, v17, (Bo (β1 || β2)), Ud, v42, v43, v44, Ud, Ud, Ud, Ud, Ud, Ud, Ud, Ud, Ud, Ud, Ud, Ud, Ud, Ud, Ud, Ud, Ud, Ud, Ud, Ud, Ud, Ud, Ud, Ud, Ud, Ud, Ud, Ud, Ud, Ud, Ud, Ud, Ud, Ud]) rfl (fun _ => rfl) (fun u hu hF => ?_) (fun v44 => ?_)
  · have h16_ : PtrR RV3 u v43 el1 := hF.1
    clear hF
    refine doesG_un rfl ?_
    obtain ⟨b16_, o16_, _, rfl, hc16_, ⟨r16_1, r16_3, r16_5, rfl, h16_2, h16_4, h16_6⟩⟩ := h16_
    refine (does_loadAgg (cs := [(Fl r16_1), (Fl r16_3), (Fl r16_5)]) (ev rfl) Try.isAgg26 Try.sizeOf26 hc16_ rfl).mono ?_; rintro _ _ ⟨rfl, rfl⟩
    exact ⟨⟨[(Fl r16_1), (Fl r16_3), (Fl r16_5)], rfl, ⟨r16_1, r16_3, r16_5, rfl, (by first | assumption | rfl), (by first | assumption | rfl), (by first | assumption | rfl)⟩⟩, Ext.refl _⟩
  refine RW_d (fun v45 => [(.slice p_pts L_pts.length q_pts), Ud, (Pt b2 0), (Bo false), Ud, Ud, v11, v12, v13, v14, v15, v16, v17, (Bo (β1 || β2)), Ud, v42, v43, v44, v45, Ud, Ud, Ud, Ud, Ud, Ud, Ud, Ud, Ud, Ud, Ud, Ud, Ud, Ud, Ud, Ud, Ud, Ud, Ud, Ud, Ud, Ud, Ud, Ud, Ud, Ud, Ud, Ud, Ud, Ud, Ud, Ud, Ud]) rfl (fun _ => rfl) (fun u hu hF => ?_) (fun v45 => ?_)
  · clear hF
    refine doesG_un rfl ?_
    refine (does_move (u := (.slice p_pts L_pts.length q_pts)) (ev rfl)).mono ?_; rintro _ _ ⟨rfl, rfl⟩
    exact ⟨rfl, Ext.refl _⟩
  refine RW_d (fun v46 => [(.slice p_pts L_pts.length q_pts), Ud, (Pt b2 0), (Bo false), Ud, Ud, v11, v12, v13, v14, v15, v16, v17, (Bo (β1 || β2)), Ud, v42, v43, v44, v45, v46, Ud, Ud, Ud, Ud, Ud, Ud, Ud, Ud, Ud, Ud, Ud, Ud, Ud, Ud, Ud, Ud, Ud, Ud, Ud, Ud, Ud, Ud, Ud, Ud, Ud, Ud, Ud, Ud, Ud, Ud, Ud, Ud]) rfl (fun _ => rfl) (fun u hu hF => ?_) (fun v46 => ?_)
  · have h18_ : v45 = (.slice p_pts L_pts.length q_pts) := hF.1
    clear hF
    refine doesG_un rfl ?_
    obtain rfl := h18_
    refine (does_indexSl (R := RV3) (i := 0) (xs := L_pts) (e := el1) Try.underlying31 Try.sizeOf26 (ev rfl) (ev rfl) (Sl.ext (Sl.ext hv_pts RV3.mono (Ext.gr X23 E39)) RV3.mono hu) (by omega) hel1).mono ?_; rintro v u' ⟨b, of, cs, hv, hc, hR, hu'⟩; subst hu'
    exact ⟨⟨b, of, cs, hv, hc, hR⟩, Ext.refl _⟩
  refine RW_d (fun v47 => [(.slice p_pts L_pts.length q_pts), Ud, (Pt b2 0), (Bo false), Ud, Ud, v11, v12, v13, v14, v15, v16, v17, (Bo (β1 || β2)), Ud, v42, v43, v44, v45, v46, v47, Ud, Ud, Ud, Ud, Ud, Ud, Ud, Ud, Ud, Ud, Ud, Ud, Ud, Ud, Ud, Ud, Ud, Ud, Ud, Ud, Ud, Ud, Ud, Ud, Ud, Ud, Ud, Ud, Ud, Ud, Ud]) rfl (fun _ => rfl) (fun u hu hF => ?_) (fun v47 => ?_)
  · have h19_ : PtrR RV3 u v46 el1 := hF.1
    clear hF
    refine doesG_un rfl ?_
    obtain ⟨b19_, o19_, _, rfl, hc19_, ⟨r19_1, r19_3, r19_5, rfl, h19_2, h19_4, h19_6⟩⟩ := h19_
    refine (does_loadAgg (cs := [(Fl r19_1), (Fl r19_3), (Fl r19_5)]) (ev rfl) Try.isAgg26 Try.sizeOf26 hc19_ rfl).mono ?_; rintro _ _ ⟨rfl, rfl⟩
    exact ⟨⟨[(Fl r19_1), (Fl r19_3), (Fl r19_5)], rfl, ⟨r19_1, r19_3, r19_5, rfl, (by first | assumption | rfl), (by first | assumption | rfl), (by first | assumption | rfl)⟩⟩, Ext.refl _⟩
  refine RW_d (fun v48 => [(.slice p_pts L_pts.length q_pts), Ud, (Pt b2 0), (Bo false), Ud, Ud, v11, v12, v13, v14, v15, v16, v17, (Bo (β1 || β2)), Ud, v42, v43, v44, v45, v46, v47, v48, Ud, Ud, Ud, Ud, Ud, Ud, Ud, Ud, Ud, Ud, Ud, Ud, Ud, Ud, Ud, Ud, Ud, Ud, Ud, Ud, Ud, Ud, Ud, Ud, Ud, Ud, Ud, Ud, Ud, Ud]) rfl (fun _ => rfl) (fun u hu hF => ?_) (fun v48 => ?_)
  · have h17_ : ∃ cs_1 : List Value, v44 = (.agg cs_1.toArray) ∧ RV3 w el1 cs_1 := hF.1
    have h20_ : ∃ cs_1 : List Value, v47 = (.agg cs_1.toArray) ∧ RV3 w el1 cs_1 := hF.2.1
    clear hF
    refine doesG_un rfl ?_
    obtain ⟨_, rfl, ⟨r17_1, r17_3, r17_5, rfl, h17_2, h17_4, h17_6⟩⟩ := h17_
    obtain ⟨_, rfl, ⟨r20_1, r20_3, r20_5, rfl, h20_2, h20_4, h20_6⟩⟩ := h20_
    refine (does_build (parts' := [(0, (.agg #[(Fl r17_1), (Fl r17_3), (Fl r17_5)])), (1, (.agg #[(Fl r20_1), (Fl r20_3), (Fl r20_5)]))]) (cells := #[(Fl r17_1), (Fl r17_3), (Fl r17_5), (Fl r20_1), (Fl r20_3), (Fl r20_5)]) (evp rfl) (by kernel_rfl)).mono ?_; rintro _ _ ⟨rfl, rfl⟩
    exact ⟨⟨r17_1, r17_3, r17_5, r20_1, r20_3, r20_5, rfl, (by simp only [h17_2, h17_4, h17_6, h20_2, h20_4, h20_6]), (by simp only [h17_2, h17_4, h17_6, h20_2, h20_4, h20_6]), (by simp only [h17_2, h17_4, h17_6, h20_2, h20_4, h20_6]), (by simp only [h17_2, h17_4, h17_6, h20_2, h20_4, h20_6]), (by simp only [h17_2, h17_4, h17_6, h20_2, h20_4, h20_6]), (by simp only [h17_2, h17_4, h17_6, h20_2, h20_4, h20_6])⟩, Ext.refl _⟩
  refine RW_d (fun v49 => [(.slice p_pts L_pts.length q_pts), Ud, (Pt b2 0), (Bo false), v49, Ud, v11, v12, v13, v14, v15, v16, v17, (Bo (β1 || β2)), Ud, v42, v43, v44, v45, v46, v47, v48, Ud, Ud, Ud, Ud, Ud, Ud, Ud, Ud, Ud, Ud, Ud, Ud, Ud, Ud, Ud, Ud, Ud, Ud, Ud, Ud, Ud, Ud, Ud, Ud, Ud, Ud, Ud, Ud, Ud, Ud]) rfl (fun _ => rfl) (fun u hu hF => ?_) (fun v49 => ?_)
  · clear hF
    refine doesG_un rfl ?_
    refine (does_alloc z28).mono ?_; rintro _ _ ⟨b, rfl, hb, hB, hx⟩
    exact ⟨⟨b, rfl, Nat.le_trans (Nat.le_trans (Below.size E39) (Below.size hu)) hb, hB⟩, hx⟩
  refine RW_fin ?_; intro w50 E51 hP52
  obtain ⟨⟨⟨⟨⟨⟨⟨⟨-, -⟩, -⟩, -⟩, -⟩, -⟩, -⟩, q53⟩, q54⟩ := hP52
  have X55 := Ext.gr X41 E51
  have q53 : ∃ r_1 : Nat, ∃ r_2 : Nat, ∃ r_3 : Nat, ∃ r_4 : Nat, ∃ r_5 : Nat, ∃ r_6 : Nat, v48 = (.agg #[(Fl r_1), (Fl r_2), (Fl r_3), (Fl r_4), (Fl r_5), (Fl r_6)]) ∧ cf .f32 r_1 = el1.x ∧ cf .f32 r_2 = el1.y ∧ cf .f32 r_3 = el1.z ∧ cf .f32 r_4 = el1.x ∧ cf .f32 r_5 = el1.y ∧ cf .f32 r_6 = el1.z := q53
  obtain ⟨r56, r58, r60, r62, r64, r66, rfl, h57, h59, h61, h63, h65, h67⟩ := q53
  have q54 : ∃ b : Nat, v49 = .pointer (some ⟨b, 0, none⟩) ∧ w19.heap.size ≤ b ∧ Blk w50 b [(Fl 0), (Fl 0), (Fl 0), (Fl 0), (Fl 0), (Fl 0)] := q54
  obtain ⟨b68, rfl, hb69, hB70⟩ := q54
  have n71 : b2 < b68 := Nat.lt_of_lt_of_le (Blk.lt (hB4.ext E20)) hb69
  have g72 : w.heap.size ≤ b68 := Nat.le_trans (Below.size X23) hb69
  show wpList _ _ _ _ (fr [(.slice p_pts L_pts.length q_pts), Ud, (Pt b2 0), (Bo false), (Pt b68 0), Ud, v11, v12, v13, v14, v15, v16, v17, (Bo (β1 || β2)), Ud, v42, v43, v44, v45, v46, v47, (.agg #[(Fl r56), (Fl r58), (Fl r60), (Fl r62), (Fl r64), (Fl r66)]), Ud, Ud, Ud, Ud, Ud, Ud, Ud, Ud, Ud, Ud, Ud, Ud, Ud, Ud, Ud, Ud, Ud, Ud, Ud, Ud, Ud, Ud, Ud, Ud, Ud, Ud, Ud, Ud, Ud, Ud]) _
  refine seqn rfl rfl (does_store (n := 6) (cs := [(Fl 0), (Fl 0), (Fl 0), (Fl 0), (Fl 0), (Fl 0)]) (u := (.agg #[(Fl r56), (Fl r58), (Fl r60), (Fl r62), (Fl r64), (Fl r66)])) (ev rfl) (ev rfl) Try.sizeOf28 rfl hB70 (Nat.le_of_ble_eq_true rfl) rfl) ?_; rintro _ w75 ⟨rfl, W73, hB74⟩
  change Blk _ _ [(Fl r56), (Fl r58), (Fl r60), (Fl r62), (Fl r64), (Fl r66)] at hB74
  have X76 := Below.wr X55 W73 g72
  refine wpList_nil (hK37 _ _ ?_)
  refine wp_seq_k fun K77 hK77 => ?_
  refine wp_seq_k fun K78 hK78 => ?_
  refine wp_region_lit ?_
  refine q_is (l' := [(.slice p_pts L_pts.length q_pts), Ud, (Pt b2 0), (Bo false), (Pt b68 0), (Iv 0), v11, v12, v13, v14, v15, v16, v17, (Bo (β1 || β2)), Ud, v42, v43, v44, v45, v46, v47, (.agg #[(Fl r56), (Fl r58), (Fl r60), (Fl r62), (Fl r64), (Fl r66)]), Ud, Ud, Ud, Ud, Ud, Ud, Ud, Ud, Ud, Ud, Ud, Ud, Ud, Ud, Ud, Ud, Ud, Ud, Ud, Ud, Ud, Ud, Ud, Ud, Ud, Ud, Ud, Ud, Ud, Ud]) rfl rfl (does_assign (u := (Iv 0)) (ev rfl)) rfl ?_
  refine wpList_nil (hK78 _ _ ?_)
  refine wp_block ?_
  have hO80 : ∃ cs, Blk w75 b68 cs ∧ RBx w75 ((fun (k : Nat) => boxTo L_pts k) 0) cs := ⟨_, hB74, by (dsimp only; rw [boxTo_zero hel1]; exact ⟨r56, r58, r60, r62, r64, r66, rfl, h57, h59, h61, h63, h65, h67⟩)⟩
  refine loop_ghost (σ := Nat) (fun k a w' => ∃ u79 : Nat → Value, a = fr [(.slice p_pts L_pts.length q_pts), Ud, (Pt b2 0), (u79 3), (Pt b68 0), (Iv (k : Int)), v11, v12, v13, v14, v15, v16, v17, (Bo (β1 || β2)), Ud, v42, v43, v44, v45, v46, v47, (.agg #[(Fl r56), (Fl r58), (Fl r60), (Fl r62), (Fl r64), (Fl r66)]), (u79 22), (u79 23), (u79 24), (u79 25), (u79 26), (u79 27), (u79 28), (u79 29), (u79 30), (u79 31), (u79 32), (u79 33), (u79 34), (u79 35), (u79 36), (u79 37), (u79 38), (u79 39), (u79 40), (u79 41), (u79 42), (u79 43), (u79 44), (u79 45), (u79 46), (u79 47), (u79 48), (u79 49), (u79 50), Ud] ∧ KpL [b68] w75 w' ∧ (∃ cs, Blk w' b68 cs ∧ RBx w' (boxTo L_pts k) cs) ∧ (k ≤ L_pts.length ∧ AllTo finV L_pts k)) (fun k => L_pts.length - k) 0 ?_ ?_
  · refine ⟨fun t => (([(.slice p_pts L_pts.length q_pts), Ud, (Pt b2 0), (Bo false), (Pt b68 0), (Iv 0), v11, v12, v13, v14, v15, v16, v17, (Bo (β1 || β2)), Ud, v42, v43, v44, v45, v46, v47, (.agg #[(Fl r56), (Fl r58), (Fl r60), (Fl r62), (Fl r64), (Fl r66)]), Ud, Ud, Ud, Ud, Ud, Ud, Ud, Ud, Ud, Ud, Ud, Ud, Ud, Ud, Ud, Ud, Ud, Ud, Ud, Ud, Ud, Ud, Ud, Ud, Ud, Ud, Ud, Ud, Ud, Ud] : List Value)[t]?).getD undef, rfl, KpL.refl _ _, hO80, ?_⟩
    exact ⟨Nat.zero_le _, AllTo.zero⟩
  · rintro k a w81 ⟨u79, rfl, E82, ⟨cs84, hB85, hR86⟩, ⟨hk, hal⟩⟩
    have X87 := Below.kl X76 E82 (allS g72 all0) (Nat.le_refl _)
    obtain ⟨r88, r90, r92, r94, r96, r98, rfl, h89, h91, h93, h95, h97, h99⟩ := hR86
    refine wp_seq_k fun K100 hK100 => ?_
    refine wp_seq_k fun K101 hK101 => ?_
    refine wp_region_lit ?_
    refine q_is (l' := [(.slice p_pts L_pts.length q_pts), Ud, (Pt b2 0), (u79 3), (Pt b68 0), (Iv (k : Int)), v11, v12, v13, v14, v15, v16, v17, (Bo (β1 || β2)), Ud, v42, v43, v44, v45, v46, v47, (.agg #[(Fl r56), (Fl r58), (Fl r60), (Fl r62), (Fl r64), (Fl r66)]), (Iv (k : Int)), (u79 23), (u79 24), (u79 25), (u79 26), (u79 27), (u79 28), (u79 29), (u79 30), (u79 31), (u79 32), (u79 33), (u79 34), (u79 35), (u79 36), (u79 37), (u79 38), (u79 39), (u79 40), (u79 41), (u79 42), (u79 43), (u79 44), (u79 45), (u79 46), (u79 47), (u79 48), (u79 49), (u79 50), Ud]) rfl rfl (does_move (u := (Iv (k : Int))) (ev rfl)) rfl ?_
    refine q_is (l' := [(.slice p_pts L_pts.length q_pts), Ud, (Pt b2 0), (u79 3), (Pt b68 0), (Iv (k : Int)), v11, v12, v13, v14, v15, v16, v17, (Bo (β1 || β2)), Ud, v42, v43, v44, v45, v46, v47, (.agg #[(Fl r56), (Fl r58), (Fl r60), (Fl r62), (Fl r64), (Fl r66)]), (Iv (k : Int)), (.slice p_pts L_pts.length q_pts), (u79 24), (u79 25), (u79 26), (u79 27), (u79 28), (u79 29), (u79 30), (u79 31), (u79 32), (u79 33), (u79 34), (u79 35), (u79 36), (u79 37), (u79 38), (u79 39), (u79 40), (u79 41), (u79 42), (u79 43), (u79 44), (u79 45), (u79 46), (u79 47), (u79 48), (u79 49), (u79 50), Ud]) rfl rfl (does_move (u := (.slice p_pts L_pts.length q_pts)) (ev rfl)) rfl ?_
    refine q_is (l' := [(.slice p_pts L_pts.length q_pts), Ud, (Pt b2 0), (u79 3), (Pt b68 0), (Iv (k : Int)), v11, v12, v13, v14, v15, v16, v17, (Bo (β1 || β2)), Ud, v42, v43, v44, v45, v46, v47, (.agg #[(Fl r56), (Fl r58), (Fl r60), (Fl r62), (Fl r64), (Fl r66)]), (Iv (k : Int)), (.slice p_pts L_pts.length q_pts), (Iv (L_pts.length : Int)), (u79 25), (u79 26), (u79 27), (u79 28), (u79 29), (u79 30), (u79 31), (u79 32), (u79 33), (u79 34), (u79 35), (u79 36), (u79 37), (u79 38), (u79 39), (u79 40), (u79 41), (u79 42), (u79 43), (u79 44), (u79 45), (u79 46), (u79 47), (u79 48), (u79 49), (u79 50), Ud]) rfl rfl (does_len_slice Try.underlying31 (ev rfl)) rfl ?_
    refine q_is (l' := [(.slice p_pts L_pts.length q_pts), Ud, (Pt b2 0), (u79 3), (Pt b68 0), (Iv (k : Int)), v11, v12, v13, v14, v15, v16, v17, (Bo (β1 || β2)), Ud, v42, v43, v44, v45, v46, v47, (.agg #[(Fl r56), (Fl r58), (Fl r60), (Fl r62), (Fl r64), (Fl r66)]), (Iv (k : Int)), (.slice p_pts L_pts.length q_pts), (Iv (L_pts.length : Int)), (Bo (icmp .lss (k : Int) (L_pts.length : Int))), (u79 26), (u79 27), (u79 28), (u79 29), (u79 30), (u79 31), (u79 32), (u79 33), (u79 34), (u79 35), (u79 36), (u79 37), (u79 38), (u79 39), (u79 40), (u79 41), (u79 42), (u79 43), (u79 44), (u79 45), (u79 46), (u79 47), (u79 48), (u79 49), (u79 50), Ud]) rfl rfl (does_icmp (p := (k : Int)) (q := (L_pts.length : Int)) (.inr (.inr (.inl rfl))) (ev rfl) (ev rfl)) rfl ?_
    refine wpList_nil (hK101 _ _ ?_)
    refine wp_cond_split (t := icmp .lss (k : Int) (L_pts.length : Int)) (ev rfl) (fun c102 => ?_) (fun c102 => ?_)
    · have c102' := c102
      (try simp only [hβ1, hβ2, inI] at c102')
      (try simp only [hβ1, hβ2] at c102')
      (try simp only [icmp, Bool.and_eq_true, Bool.or_eq_true, Bool.and_eq_false_iff, Bool.or_eq_false_iff, Bool.not_eq_true', Bool.not_eq_false', decide_eq_true_eq, decide_eq_false_iff_not, beq_iff_eq, bne_iff_ne, beq_eq_false_iff_ne, bne_eq_false_iff_eq] at c102')
      refine wp_skip (hK100 _ _ ?_)
      refine wp_seq_k fun K103 hK103 => ?_
      refine wp_block ?_
      refine wp_seq_k fun K104 hK104 => ?_
      refine wp_seq_k fun K105 hK105 => ?_
      refine wp_region_lit ?_
      refine q_is (l' := [(.slice p_pts L_pts.length q_pts), Ud, (Pt b2 0), (u79 3), (Pt b68 0), (Iv (k : Int)), v11, v12, v13, v14, v15, v16, v17, (Bo (β1 || β2)), Ud, v42, v43, v44, v45, v46, v47, (.agg #[(Fl r56), (Fl r58), (Fl r60), (Fl r62), (Fl r64), (Fl r66)]), (Iv (k : Int)), (.slice p_pts L_pts.length q_pts), (Iv (L_pts.length : Int)), (Bo (icmp .lss (k : Int) (L_pts.length : Int))), (u79 26), (u79 27), (.slice p_pts L_pts.length q_pts), (u79 29), (u79 30), (u79 31), (u79 32), (u79 33), (u79 34), (u79 35), (u79 36), (u79 37), (u79 38), (u79 39), (u79 40), (u79 41), (u79 42), (u79 43), (u79 44), (u79 45), (u79 46), (u79 47), (u79 48), (u79 49), (u79 50), Ud]) rfl rfl (does_move (u := (.slice p_pts L_pts.length q_pts)) (ev rfl)) rfl ?_
      refine q_is (l' := [(.slice p_pts L_pts.length q_pts), Ud, (Pt b2 0), (u79 3), (Pt b68 0), (Iv (k : Int)), v11, v12, v13, v14, v15, v16, v17, (Bo (β1 || β2)), Ud, v42, v43, v44, v45, v46, v47, (.agg #[(Fl r56), (Fl r58), (Fl r60), (Fl r62), (Fl r64), (Fl r66)]), (Iv (k : Int)), (.slice p_pts L_pts.length q_pts), (Iv (L_pts.length : Int)), (Bo (icmp .lss (k : Int) (L_pts.length : Int))), (u79 26), (u79 27), (.slice p_pts L_pts.length q_pts), (Iv (k : Int)), (u79 30), (u79 31), (u79 32), (u79 33), (u79 34), (u79 35), (u79 36), (u79 37), (u79 38), (u79 39), (u79 40), (u79 41), (u79 42), (u79 43), (u79 44), (u79 45), (u79 46), (u79 47), (u79 48), (u79 49), (u79 50), Ud]) rfl rfl (does_move (u := (Iv (k : Int))) (ev rfl)) rfl ?_
      obtain ⟨el2, hel2⟩ : ∃ e, L_pts[k]? = some e := ⟨_, List.getElem?_eq_getElem (by omega)⟩
      refine seqd rfl rfl (does_indexSl (R := RV3) (i := (k : Int)) (xs := L_pts) (e := el2) Try.underlying31 Try.sizeOf26 (ev rfl) (ev rfl) (Sl.ext hv_pts RV3.mono X87) (by omega) hel2) ?_; rintro _ _ ⟨b106, o107, _, rfl, hc109, ⟨r110, r112, r114, rfl, h111, h113, h115⟩, rfl⟩
      show wpList _ _ _ _ (fr [(.slice p_pts L_pts.length q_pts), Ud, (Pt b2 0), (u79 3), (Pt b68 0), (Iv (k : Int)), v11, v12, v13, v14, v15, v16, v17, (Bo (β1 || β2)), Ud, v42, v43, v44, v45, v46, v47, (.agg #[(Fl r56), (Fl r58), (Fl r60), (Fl r62), (Fl r64), (Fl r66)]), (Iv (k : Int)), (.slice p_pts L_pts.length q_pts), (Iv (L_pts.length : Int)), (Bo (icmp .lss (k : Int) (L_pts.length : Int))), (u79 26), (u79 27), (.slice p_pts L_pts.length q_pts), (Iv (k : Int)), (Pt b106 o107), (u79 31), (u79 32), (u79 33), (u79 34), (u79 35), (u79 36), (u79 37), (u79 38), (u79 39), (u79 40), (u79 41), (u79 42), (u79 43), (u79 44), (u79 45), (u79 46), (u79 47), (u79 48), (u79 49), (u79 50), Ud]) _
      refine q_is (l' := [(.slice p_pts L_pts.length q_pts), Ud, (Pt b2 0), (u79 3), (Pt b68 0), (Iv (k : Int)), v11, v12, v13, v14, v15, v16, v17, (Bo (β1 || β2)), Ud, v42, v43, v44, v45, v46, v47, (.agg #[(Fl r56), (Fl r58), (Fl r60), (Fl r62), (Fl r64), (Fl r66)]), (Iv (k : Int)), (.slice p_pts L_pts.length q_pts), (Iv (L_pts.length : Int)), (Bo (icmp .lss (k : Int) (L_pts.length : Int))), (u79 26), (u79 27), (.slice p_pts L_pts.length q_pts), (Iv (k : Int)), (Pt b106 o107), (.agg #[(Fl r110), (Fl r112), (Fl r114)]), (u79 32), (u79 33), (u79 34), (u79 35), (u79 36), (u79 37), (u79 38), (u79 39), (u79 40), (u79 41), (u79 42), (u79 43), (u79 44), (u79 45), (u79 46), (u79 47), (u79 48), (u79 49), (u79 50), Ud]) rfl rfl (does_loadAgg (cs := [(Fl r110), (Fl r112), (Fl r114)]) (ev rfl) Try.isAgg26 Try.sizeOf26 hc109 rfl) rfl ?_
      refine seqd rfl rfl (does_call (args := #[(.agg #[(Fl r110), (Fl r112), (Fl r114)])]) cal52 (evs rfl) (c_spec_l01VFinite [(Fl r110), (Fl r112), (Fl r114)] el2 _ ⟨r110, r112, r114, rfl, h111, h113, h115⟩)) ?_; rintro _ w117 ⟨E116, rfl⟩
      have X118 := Ext.gr X87 E116
      show wpList _ _ _ _ (fr [(.slice p_pts L_pts.length q_pts), Ud, (Pt b2 0), (u79 3), (Pt b68 0), (Iv (k : Int)), v11, v12, v13, v14, v15, v16, v17, (Bo (β1 || β2)), Ud, v42, v43, v44, v45, v46, v47, (.agg #[(Fl r56), (Fl r58), (Fl r60), (Fl r62), (Fl r64), (Fl r66)]), (Iv (k : Int)), (.slice p_pts L_pts.length q_pts), (Iv (L_pts.length : Int)), (Bo (icmp .lss (k : Int) (L_pts.length : Int))), (u79 26), (u79 27), (.slice p_pts L_pts.length q_pts), (Iv (k : Int)), (Pt b106 o107), (.agg #[(Fl r110), (Fl r112), (Fl r114)]), (Bo (finV el2)), (u79 33), (u79 34), (u79 35), (u79 36), (u79 37), (u79 38), (u79 39), (u79 40), (u79 41), (u79 42), (u79 43), (u79 44), (u79 45), (u79 46), (u79 47), (u79 48), (u79 49), (u79 50), Ud]) _
      refine q_is (l' := [(.slice p_pts L_pts.length q_pts), Ud, (Pt b2 0), (u79 3), (Pt b68 0), (Iv (k : Int)), v11, v12, v13, v14, v15, v16, v17, (Bo (β1 || β2)), Ud, v42, v43, v44, v45, v46, v47, (.agg #[(Fl r56), (Fl r58), (Fl r60), (Fl r62), (Fl r64), (Fl r66)]), (Iv (k : Int)), (.slice p_pts L_pts.length q_pts), (Iv (L_pts.length : Int)), (Bo (icmp .lss (k : Int) (L_pts.length : Int))), (u79 26), (u79 27), (.slice p_pts L_pts.length q_pts), (Iv (k : Int)), (Pt b106 o107), (.agg #[(Fl r110), (Fl r112), (Fl r114)]), (Bo (finV el2)), (Bo (!(finV el2))), (u79 34), (u79 35), (u79 36), (u79 37), (u79 38), (u79 39), (u79 40), (u79 41), (u79 42), (u79 43), (u79 44), (u79 45), (u79 46), (u79 47), (u79 48), (u79 49), (u79 50), Ud]) rfl rfl (does_not (ev rfl)) rfl ?_
      refine wpList_nil (hK105 _ _ ?_)
      refine wp_cond_split (t := !(finV el2)) (ev rfl) (fun c119 => ?_) (fun c119 => ?_)
      · rw [Bool.not_eq_true'] at c119
        have c119' := c119
        (try simp only [hβ1, hβ2, inI] at c119')
        (try simp only [hβ1, hβ2] at c119')
        (try simp only [icmp, Bool.and_eq_true, Bool.or_eq_true, Bool.and_eq_false_iff, Bool.or_eq_false_iff, Bool.not_eq_true', Bool.not_eq_false', decide_eq_true_eq, decide_eq_false_iff_not, beq_iff_eq, bne_iff_ne, beq_eq_false_iff_ne, bne_eq_false_iff_eq] at c119')
        refine wp_seq_k fun K120 hK120 => ?_
        refine wp_region_lit ?_
        refine q_is (l' := [(.slice p_pts L_pts.length q_pts), Ud, (Pt b2 0), (u79 3), (Pt b68 0), (Iv (k : Int)), v11, v12, v13, v14, v15, v16, v17, (Bo (β1 || β2)), Ud, v42, v43, v44, v45, v46, v47, (.agg #[(Fl r56), (Fl r58), (Fl r60), (Fl r62), (Fl r64), (Fl r66)]), (Iv (k : Int)), (.slice p_pts L_pts.length q_pts), (Iv (L_pts.length : Int)), (Bo (icmp .lss (k : Int) (L_pts.length : Int))), (u79 26), (u79 27), (.slice p_pts L_pts.length q_pts), (Iv (k : Int)), (Pt b106 o107), (.agg #[(Fl r110), (Fl r112), (Fl r114)]), (Bo (finV el2)), (Bo (!(finV el2))), (.agg #[(Fl 0), (Fl 0), (Fl 0), (Fl 0), (Fl 0), (Fl 0)]), (u79 35), (u79 36), (u79 37), (u79 38), (u79 39), (u79 40), (u79 41), (u79 42), (u79 43), (u79 44), (u79 45), (u79 46), (u79 47), (u79 48), (u79 49), (u79 50), Ud]) rfl rfl (does_build (parts' := []) (cells := #[(Fl 0), (Fl 0), (Fl 0), (Fl 0), (Fl 0), (Fl 0)]) (evp rfl) (by kernel_rfl)) rfl ?_
        refine seqn rfl rfl (does_store (n := 6) (cs := [(Fl 0), (Fl 0), (Fl 0), (Fl 0), (Fl 0), (Fl 0)]) (u := (.agg #[(Fl 0), (Fl 0), (Fl 0), (Fl 0), (Fl 0), (Fl 0)])) (ev rfl) (ev rfl) Try.sizeOf28 rfl ((((((hB4.ext E20).ext E39).ext E51).wr W73 (Nat.ne_of_lt n71)).kl E82 (ninS (Nat.ne_of_lt n71) nin0)).ext E116) (Nat.le_of_ble_eq_true rfl) rfl) ?_; rintro _ w123 ⟨rfl, W121, hB122⟩
        change Blk _ _ [(Fl 0), (Fl 0), (Fl 0), (Fl 0), (Fl 0), (Fl 0)] at hB122
        have X124 := Below.wr X118 W121 g7
        refine q_is (l' := [(.slice p_pts L_pts.length q_pts), Ud, (Pt b2 0), (Bo false), (Pt b68 0), (Iv (k : Int)), v11, v12, v13, v14, v15, v16, v17, (Bo (β1 || β2)), Ud, v42, v43, v44, v45, v46, v47, (.agg #[(Fl r56), (Fl r58), (Fl r60), (Fl r62), (Fl r64), (Fl r66)]), (Iv (k : Int)), (.slice p_pts L_pts.length q_pts), (Iv (L_pts.length : Int)), (Bo (icmp .lss (k : Int) (L_pts.length : Int))), (u79 26), (u79 27), (.slice p_pts L_pts.length q_pts), (Iv (k : Int)), (Pt b106 o107), (.agg #[(Fl r110), (Fl r112), (Fl r114)]), (Bo (finV el2)), (Bo (!(finV el2))), (.agg #[(Fl 0), (Fl 0), (Fl 0), (Fl 0), (Fl 0), (Fl 0)]), (u79 35), (u79 36), (u79 37), (u79 38), (u79 39), (u79 40), (u79 41), (u79 42), (u79 43), (u79 44), (u79 45), (u79 46), (u79 47), (u79 48), (u79 49), (u79 50), Ud]) rfl rfl (does_assign (u := (Bo false)) (ev rfl)) rfl ?_
        refine wpList_nil (hK120 _ _ ?_)
        refine wp_ret ?_
        dsimp only [Exit.then, Exit.inBlock]
        refine ret_val (v := (.tuple #[(.agg #[(Fl 0), (Fl 0), (Fl 0), (Fl 0), (Fl 0), (Fl 0)]), (Bo false)])) (res_CT rfl (slot rfl) (run_loadAgg (cs := [(Fl 0), (Fl 0), (Fl 0), (Fl 0), (Fl 0), (Fl 0)]) Try.isAgg28 Try.sizeOf28 (Blk.cells hB122) rfl) (slot rfl)) X124 ?_
        try simp only [hβ1, hβ2, hel1, h57, h59, h61, h63, h65, h67, h89, h91, h93, h95, h97, h99, hel2, h111, h113, h115] at c24 c102 c119
        have x125 : (bxOk L_pts) = false := by first | exact bxOk_len (by assumption) | exact bxOk_len2 (by assumption) | exact bxOk_bad (by assumption) (by assumption) | exact bxOk_ok1 (by assumption) hal (by omega) | exact bxOk_ok2 (by assumption) hal (by omega) | (rw [bxOk_len (by assumption)]; simp only [gvA_f, zB, zV]; done) | (rw [bxOk_len2 (by assumption)]; simp only [gvA_f, zB, zV]; done) | (rw [bxOk_bad (by assumption) (by assumption)]; simp only [gvA_f, zB, zV]; done) | (rw [bxOk_ok1 (by assumption) hal (by omega), gvA_t, show L_pts.length = k by omega]; assumption) | (rw [bxOk_ok2 (by assumption) hal (by omega), gvA_t, show L_pts.length = k by omega]; assumption)
        have x126 : cf .f32 0 = (gvA zB (bxOk L_pts) (boxTo L_pts L_pts.length)).lo.x := by first | exact bxOk_len (by assumption) | exact bxOk_len2 (by assumption) | exact bxOk_bad (by assumption) (by assumption) | exact bxOk_ok1 (by assumption) hal (by omega) | exact bxOk_ok2 (by assumption) hal (by omega) | (rw [bxOk_len (by assumption)]; simp only [gvA_f, zB, zV]; done) | (rw [bxOk_len2 (by assumption)]; simp only [gvA_f, zB, zV]; done) | (rw [bxOk_bad (by assumption) (by assumption)]; simp only [gvA_f, zB, zV]; done) | (rw [bxOk_ok1 (by assumption) hal (by omega), gvA_t, show L_pts.length = k by omega]; assumption) | (rw [bxOk_ok2 (by assumption) hal (by omega), gvA_t, show L_pts.length = k by omega]; assumption)
        have x127 : cf .f32 0 = (gvA zB (bxOk L_pts) (boxTo L_pts L_pts.length)).lo.y := by first | exact bxOk_len (by assumption) | exact bxOk_len2 (by assumption) | exact bxOk_bad (by assumption) (by assumption) | exact bxOk_ok1 (by assumption) hal (by omega) | exact bxOk_ok2 (by assumption) hal (by omega) | (rw [bxOk_len (by assumption)]; simp only [gvA_f, zB, zV]; done) | (rw [bxOk_len2 (by assumption)]; simp only [gvA_f, zB, zV]; done) | (rw [bxOk_bad (by assumption) (by assumption)]; simp only [gvA_f, zB, zV]; done) | (rw [bxOk_ok1 (by assumption) hal (by omega), gvA_t, show L_pts.length = k by omega]; assumption) | (rw [bxOk_ok2 (by assumption) hal (by omega), gvA_t, show L_pts.length = k by omega]; assumption)
        have x128 : cf .f32 0 = (gvA zB (bxOk L_pts) (boxTo L_pts L_pts.length)).lo.z := by first | exact bxOk_len (by assumption) | exact bxOk_len2 (by assumption) | exact bxOk_bad (by assumption) (by assumption) | exact bxOk_ok1 (by assumption) hal (by omega) | exact bxOk_ok2 (by assumption) hal (by omega) | (rw [bxOk_len (by assumption)]; simp only [gvA_f, zB, zV]; done) | (rw [bxOk_len2 (by assumption)]; simp only [gvA_f, zB, zV]; done) | (rw [bxOk_bad (by assumption) (by assumption)]; simp only [gvA_f, zB, zV]; done) | (rw [bxOk_ok1 (by assumption) hal (by omega), gvA_t, show L_pts.length = k by omega]; assumption) | (rw [bxOk_ok2 (by assumption) hal (by omega), gvA_t, show L_pts.length = k by omega]; assumption)
        have x129 : cf .f32 0 = (gvA zB (bxOk L_pts) (boxTo L_pts L_pts.length)).hi.x := by first | exact bxOk_len (by assumption) | exact bxOk_len2 (by assumption) | exact bxOk_bad (by assumption) (by assumption) | exact bxOk_ok1 (by assumption) hal (by omega) | exact bxOk_ok2 (by assumption) hal (by omega) | (rw [bxOk_len (by assumption)]; simp only [gvA_f, zB, zV]; done) | (rw [bxOk_len2 (by assumption)]; simp only [gvA_f, zB, zV]; done) | (rw [bxOk_bad (by assumption) (by assumption)]; simp only [gvA_f, zB, zV]; done) | (rw [bxOk_ok1 (by assumption) hal (by omega), gvA_t, show L_pts.length = k by omega]; assumption) | (rw [bxOk_ok2 (by assumption) hal (by omega), gvA_t, show L_pts.length = k by omega]; assumption)
        have x130 : cf .f32 0 = (gvA zB (bxOk L_pts) (boxTo L_pts L_pts.length)).hi.y := by first | exact bxOk_len (by assumption) | exact bxOk_len2 (by assumption) | exact bxOk_bad (by assumption) (by assumption) | exact bxOk_ok1 (by assumption) hal (by omega) | exact bxOk_ok2 (by assumption) hal (by omega) | (rw [bxOk_len (by assumption)]; simp only [gvA_f, zB, zV]; done) | (rw [bxOk_len2 (by assumption)]; simp only [gvA_f, zB, zV]; done) | (rw [bxOk_bad (by assumption) (by assumption)]; simp only [gvA_f, zB, zV]; done) | (rw [bxOk_ok1 (by assumption) hal (by omega), gvA_t, show L_pts.length = k by omega]; assumption) | (rw [bxOk_ok2 (by assumption) hal (by omega), gvA_t, show L_pts.length = k by omega]; assumption)
        have x131 : cf .f32 0 = (gvA zB (bxOk L_pts) (boxTo L_pts L_pts.length)).hi.z := by first | exact bxOk_len (by assumption) | exact bxOk_len2 (by assumption) | exact bxOk_bad (by assumption) (by assumption) | exact bxOk_ok1 (by assumption) hal (by omega) | exact bxOk_ok2 (by assumption) hal (by omega) | (rw [bxOk_len (by assumption)]; simp only [gvA_f, zB, zV]; done) | (rw [bxOk_len2 (by assumption)]; simp only [gvA_f, zB, zV]; done) | (rw [bxOk_bad (by assumption) (by assumption)]; simp only [gvA_f, zB, zV]; done) | (rw [bxOk_ok1 (by assumption) hal (by omega), gvA_t, show L_pts.length = k by omega]; assumption) | (rw [bxOk_ok2 (by assumption) hal (by omega), gvA_t, show L_pts.length = k by omega]; assumption)
        exact ⟨[(Fl 0), (Fl 0), (Fl 0), (Fl 0), (Fl 0), (Fl 0)], (by first | rfl | rw [x125]), ⟨0, 0, 0, 0, 0, 0, rfl, x126, x127, x128, x129, x130, x131⟩⟩
      rw [Bool.not_eq_false'] at c119
      have c119' := c119
      (try simp only [hβ1, hβ2, inI] at c119')
      (try simp only [hβ1, hβ2] at c119')
      (try simp only [icmp, Bool.and_eq_true, Bool.or_eq_true, Bool.and_eq_false_iff, Bool.or_eq_false_iff, Bool.not_eq_true', Bool.not_eq_false', decide_eq_true_eq, decide_eq_false_iff_not, beq_iff_eq, bne_iff_ne, beq_eq_false_iff_ne, bne_eq_false_iff_eq] at c119')
      refine wp_skip (hK104 _ _ ?_)
      refine wp_seq_k fun K132 hK132 => ?_
      refine region_draw (
        [Fact.pure [] (fun v => v = (Pt b68 0)),
    Fact.pure [35] (fun v => v = (.agg #[(Fl r88), (Fl r90), (Fl r92)])),
    Fact.pure [] (fun v => v = (.slice p_pts L_pts.length q_pts)),
    Fact.pure [] (fun v => v = (Iv (k : Int))),
    Fact.mem [37, 38] (fun v w' => PtrR RV3 w' v el2) (by intro v w1 w2 hx h; exact h.ext RV3.mono hx),
    Fact.pure [39] (fun v => ∃ cs_1 : List Value, v = (.agg cs_1.toArray) ∧ RV3 w el2 cs_1),
    Fact.pure [36, 40] (fun v => ∃ cs_1 : List Value, v = (.agg cs_1.toArray) ∧ RV3 w (vmin (boxTo L_pts k).lo el2) cs_1),
    Fact.pure [] (fun v => v = (Pt b68 0))]) mixed (by kernel_rfl) (by intro _ _ d _ _ h; cases d <;> exact h) ?_
      obtain ⟨w133, hw135⟩ : ∃ w', w' = World.drew w117 := ⟨_, rfl⟩; rw [← hw135]; have E134 : Ext w117 w133 := by rw [hw135]; exact Ext.draw _
      clear hw135
      have X136 := Ext.gr X118 E134
      refine RW_d (fun v137 => [(.slice p_pts L_pts.length q_pts), Ud, (Pt b2 0), (u79 3), (Pt b68 0), (Iv (k : Int)), v11, v12, v13, v14, v15, v16, v17, (Bo (β1 || β2)), Ud, v42, v43, v44, v45, v46, v47, (.agg #[(Fl r56), (Fl r58), (Fl r60), (Fl r62), (Fl r64), (Fl r66)]), (Iv (k : Int)), (.slice p_pts L_pts.length q_pts), (Iv (L_pts.length : Int)), (Bo (icmp .lss (k : Int) (L_pts.length : Int))), (u79 26), (u79 27), (.slice p_pts L_pts.length q_pts), (Iv (k : Int)), (Pt b106 o107), (.agg #[(Fl r110), (Fl r112), (Fl r114)]), (Bo (finV el2)), (Bo (!(finV el2))), (u79 34), v137, (u79 36), (u79 37), (u79 38), (u79 39), (u79 40), (u79 41), (u79 42), (u79 43), (u79 44), (u79 45), (u79 46), (u79 47), (u79 48), (u79 49), (u79 50), Ud]) rfl (fun _ => rfl) (fun u hu hF => ?_) (fun v137 => ?_)
      · clear hF
        refine doesG_un rfl ?_
        refine (does_fieldAddr (ev rfl) fa28_0).mono ?_; rintro _ _ ⟨rfl, rfl⟩
        exact ⟨rfl, Ext.refl _⟩
      refine RW_d (fun v138 => [(.slice p_pts L_pts.length q_pts), Ud, (Pt b2 0), (u79 3), (Pt b68 0), (Iv (k : Int)), v11, v12, v13, v14, v15, v16, v17, (Bo (β1 || β2)), Ud, v42, v43, v44, v45, v46, v47, (.agg #[(Fl r56), (Fl r58), (Fl r60), (Fl r62), (Fl r64), (Fl r66)]), (Iv (k : Int)), (.slice p_pts L_pts.length q_pts), (Iv (L_pts.length : Int)), (Bo (icmp .lss (k : Int) (L_pts.length : Int))), (u79 26), (u79 27), (.slice p_pts L_pts.length q_pts), (Iv (k : Int)), (Pt b106 o107), (.agg #[(Fl r110), (Fl r112), (Fl r114)]), (Bo (finV el2)), (Bo (!(finV el2))), (u79 34), v137, v138, (u79 37), (u79 38), (u79 39), (u79 40), (u79 41), (u79 42), (u79 43), (u79 44), (u79 45), (u79 46), (u79 47), (u79 48), (u79 49), (u79 50), Ud]) rfl (fun _ => rfl) (fun u hu hF => ?_) (fun v138 => ?_)
      · have h35_ : v137 = (Pt b68 0) := hF.1
        clear hF
        refine doesG_un rfl ?_
        obtain rfl := h35_
        refine (does_loadAgg (cs := [(Fl r88), (Fl r90), (Fl r92)]) (ev rfl) Try.isAgg26 Try.sizeOf26 (Cells.sub (Blk.cells (((hB85.ext E116).ext E134).ext hu)) 0 3) rfl).mono ?_; rintro _ _ ⟨rfl, rfl⟩
        exact ⟨rfl, Ext.refl _⟩
      refine RW_d (fun v139 => [(.slice p_pts L_pts.length q_pts), Ud, (Pt b2 0), (u79 3), (Pt b68 0), (Iv (k : Int)), v11, v12, v13, v14, v15, v16, v17, (Bo (β1 || β2)), Ud, v42, v43, v44, v45, v46, v47, (.agg #[(Fl r56), (Fl r58), (Fl r60), (Fl r62), (Fl r64), (Fl r66)]), (Iv (k : Int)), (.slice p_pts L_pts.length q_pts), (Iv (L_pts.length : Int)), (Bo (icmp .lss (k : Int) (L_pts.length : Int))), (u79 26), (u79 27), (.slice p_pts L_pts.length q_pts), (Iv (k : Int)), (Pt b106 o107), (.agg #[(Fl r110), (Fl r112), (Fl r114)]), (Bo (finV el2)), (Bo (!(finV el2))), (u79 34), v137, v138, v139, (u79 38), (u79 39), (u79 40), (u79 41), (u79 42), (u79 43), (u79 44), (u79 45), (u79 46), (u79 47), (u79 48), (u79 49), (u79 50), Ud]) rfl (fun _ => rfl) (fun u hu hF => ?_) (fun v139 => ?_)
      · clear hF
        refine doesG_un rfl ?_
        refine (does_move (u := (.slice p_pts L_pts.length q_pts)) (ev rfl)).mono ?_; rintro _ _ ⟨rfl, rfl⟩
        exact ⟨rfl, Ext.refl _⟩
      refine RW_d (fun v140 => [(.slice p_pts L_pts.length q_pts), Ud, (Pt b2 0), (u79 3), (Pt b68 0), (Iv (k : Int)), v11, v12, v13, v14, v15, v16, v17, (Bo (β1 || β2)), Ud, v42, v43, v44, v45, v46, v47, (.agg #[(Fl r56), (Fl r58), (Fl r60), (Fl r62), (Fl r64), (Fl r66)]), (Iv (k : Int)), (.slice p_pts L_pts.length q_pts), (Iv (L_pts.length : Int)), (Bo (icmp .lss (k : Int) (L_pts.length : Int))), (u79 26), (u79 27), (.slice p_pts L_pts.length q_pts), (Iv (k : Int)), (Pt b106 o107), (.agg #[(Fl r110), (Fl r112), (Fl r114)]), (Bo (finV el2)), (Bo (!(finV el2))), (u79 34), v137, v138, v139, v140, (u79 39), (u79 40), (u79 41), (u79 42), (u79 43), (u79 44), (u79 45), (u79 46), (u79 47), (u79 48), (u79 49), (u79 50), Ud]) rfl (fun _ => rfl) (fun u hu hF => ?_) (fun v140 => ?_)
      · clear hF
        refine doesG_un rfl ?_
        refine (does_move (u := (Iv (k : Int))) (ev rfl)).mono ?_; rintro _ _ ⟨rfl, rfl⟩
        exact ⟨rfl, Ext.refl _⟩
      refine RW_d (fun v141 => [(.slice p_pts L_pts.length q_pts), Ud, (Pt b2 0), (u79 3), (Pt b68 0), (Iv (k : Int)), v11, v12, v13, v14, v15, v16, v17, (Bo (β1 || β2)), Ud, v42, v43, v44, v45, v46, v47, (.agg #[(Fl r56), (Fl r58), (Fl r60), (Fl r62), (Fl r64), (Fl r66)]), (Iv (k : Int)), (.slice p_pts L_pts.length q_pts), (Iv (L_pts.length : Int)), (Bo (icmp .lss (k : Int) (L_pts.length : Int))), (u79 26), (u79 27), (.slice p_pts L_pts.length q_pts), (Iv (k : Int)), (Pt b106 o107), (.agg #[(Fl r110), (Fl r112), (Fl r114)]), (Bo (finV el2)), (Bo (!(finV el2))), (u79 34), v137, v138, v139, v140, v141, (u79 40), (u79 41), (u79 42), (u79 43), (u79 44), (u79 45), (u79 46), (u79 47), (u79 48), (u79 49), (u79 50), Ud]) rfl (fun _ => rfl) (fun u hu hF => ?_) (fun v141 => ?_)
      · have h37_ : v139 = (.slice p_pts L_pts.length q_pts) := hF.1
        have h38_ : v140 = (Iv (k : Int)) := hF.2.1
        clear hF
        refine doesG_un rfl ?_
        obtain rfl := h37_
        obtain rfl := h38_
        refine (does_indexSl (R := RV3) (i := (k : Int)) (xs := L_pts) (e := el2) Try.underlying31 Try.sizeOf26 (ev rfl) (ev rfl) (Sl.ext (Sl.ext hv_pts RV3.mono (Ext.gr X118 E134)) RV3.mono hu) (by omega) hel2).mono ?_; rintro v u' ⟨b, of, cs, hv, hc, hR, hu'⟩; subst hu'
        exact ⟨⟨b, of, cs, hv, hc, hR⟩, Ext.refl _⟩
      refine RW_d (fun v142 => [(.slice p_pts L_pts.length q_pts), Ud, (Pt b2 0), (u79 3), (Pt b68 0), (Iv (k : Int)), v11, v12, v13, v14, v15, v16, v17, (Bo (β1 || β2)), Ud, v42, v43, v44, v45, v46, v47, (.agg #[(Fl r56), (Fl r58), (Fl r60), (Fl r62), (Fl r64), (Fl r66)]), (Iv (k : Int)), (.slice p_pts L_pts.length q_pts), (Iv (L_pts.length : Int)), (Bo (icmp .lss (k : Int) (L_pts.length : Int))), (u79 26), (u79 27), (.slice p_pts L_pts.length q_pts), (Iv (k : Int)), (Pt b106 o107), (.agg #[(Fl r110), (Fl r112), (Fl r114)]), (Bo (finV el2)), (Bo (!(finV el2))), (u79 34), v137, v138, v139, v140, v141, v142, (u79 41), (u79 42), (u79 43), (u79 44), (u79 45), (u79 46), (u79 47), (u79 48), (u79 49), (u79 50), Ud]) rfl (fun _ => rfl) (fun u hu hF => ?_) (fun v142 => ?_)
      · have h39_ : PtrR RV3 u v141 el2 := hF.1
        clear hF
        refine doesG_un rfl ?_
        obtain ⟨b39_, o39_, _, rfl, hc39_, ⟨r39_1, r39_3, r39_5, rfl, h39_2, h39_4, h39_6⟩⟩ := h39_
        refine (does_loadAgg (cs := [(Fl r39_1), (Fl r39_3), (Fl r39_5)]) (ev rfl) Try.isAgg26 Try.sizeOf26 hc39_ rfl).mono ?_; rintro _ _ ⟨rfl, rfl⟩
        exact ⟨⟨[(Fl r39_1), (Fl r39_3), (Fl r39_5)], rfl, ⟨r39_1, r39_3, r39_5, rfl, (by first | assumption | rfl), (by first | assumption | rfl), (by first | assumption | rfl)⟩⟩, Ext.refl _⟩
      refine RW_d (fun v143 => [(.slice p_pts L_pts.length q_pts), Ud, (Pt b2 0), (u79 3), (Pt b68 0), (Iv (k : Int)), v11, v12, v13, v14, v15, v16, v17, (Bo (β1 || β2)), Ud, v42, v43, v44, v45, v46, v47, (.agg #[(Fl r56), (Fl r58), (Fl r60), (Fl r62), (Fl r64), (Fl r66)]), (Iv (k : Int)), (.slice p_pts L_pts.length q_pts), (Iv (L_pts.length : Int)), (Bo (icmp .lss (k : Int) (L_pts.length : Int))), (u79 26), (u79 27), (.slice p_pts L_pts.length q_pts), (Iv (k : Int)), (Pt b106 o107), (.agg #[(Fl r110), (Fl r112), (Fl r114)]), (Bo (finV el2)), (Bo (!(finV el2))), (u79 34), v137, v138, v139, v140, v141, v142, v143, (u79 42), (u79 43), (u79 44), (u79 45), (u79 46), (u79 47), (u79 48), (u79 49), (u79 50), Ud]) rfl (fun _ => rfl) (fun u hu hF => ?_) (fun v143 => ?_)
      · have h36_ : v138 = (.agg #[(Fl r88), (Fl r90), (Fl r92)]) := hF.1
        have h40_ : ∃ cs_1 : List Value, v142 = (.agg cs_1.toArray) ∧ RV3 w el2 cs_1 := hF.2.1
        clear hF
        refine doesG_un rfl ?_
        obtain rfl := h36_
        obtain ⟨_, rfl, ⟨r40_1, r40_3, r40_5, rfl, h40_2, h40_4, h40_6⟩⟩ := h40_
        refine (does_call (args := #[(.agg #[(Fl r88), (Fl r90), (Fl r92)]), (.agg #[(Fl r40_1), (Fl r40_3), (Fl r40_5)])]) cal53 (evs rfl) (c_spec_l04Low [(Fl r88), (Fl r90), (Fl r92)] (boxTo L_pts k).lo [(Fl r40_1), (Fl r40_3), (Fl r40_5)] el2 _ ⟨r88, r90, r92, rfl, h89, h91, h93⟩ ⟨r40_1, r40_3, r40_5, rfl, (by assumption), (by assumption), (by assumption)⟩)).mono ?_; rintro v u' ⟨hx, ⟨csn1, hv, k0⟩⟩
        exact ⟨⟨csn1, hv.trans (by simp only [h40_2, h40_4, h40_6]), (by first | exact k0 | simpa only [h40_2, h40_4, h40_6] using RV3.any (w := w) k0)⟩, hx⟩
      refine RW_d (fun v144 => [(.slice p_pts L_pts.length q_pts), Ud, (Pt b2 0), (u79 3), (Pt b68 0), (Iv (k : Int)), v11, v12, v13, v14, v15, v16, v17, (Bo (β1 || β2)), Ud, v42, v43, v44, v45, v46, v47, (.agg #[(Fl r56), (Fl r58), (Fl r60), (Fl r62), (Fl r64), (Fl r66)]), (Iv (k : Int)), (.slice p_pts L_pts.length q_pts), (Iv (L_pts.length : Int)), (Bo (icmp .lss (k : Int) (L_pts.length : Int))), (u79 26), (u79 27), (.slice p_pts L_pts.length q_pts), (Iv (k : Int)), (Pt b106 o107), (.agg #[(Fl r110), (Fl r112), (Fl r114)]), (Bo (finV el2)), (Bo (!(finV el2))), (u79 34), v137, v138, v139, v140, v141, v142, v143, v144, (u79 43), (u79 44), (u79 45), (u79 46), (u79 47), (u79 48), (u79 49), (u79 50), Ud]) rfl (fun _ => rfl) (fun u hu hF => ?_) (fun v144 => ?_)
      · clear hF
        refine doesG_un rfl ?_
        refine (does_fieldAddr (ev rfl) fa28_0).mono ?_; rintro _ _ ⟨rfl, rfl⟩
        exact ⟨rfl, Ext.refl _⟩
      refine RW_fin ?_; intro w145 E146 hP147
      obtain ⟨⟨⟨⟨⟨⟨⟨⟨-, -⟩, -⟩, -⟩, -⟩, -⟩, -⟩, q148⟩, q149⟩ := hP147
      have X150 := Ext.gr X136 E146
      have q148 : ∃ cs_1 : List Value, v143 = (.agg cs_1.toArray) ∧ RV3 w (vmin (boxTo L_pts k).lo el2) cs_1 := q148
      obtain ⟨_, rfl, ⟨r151, r153, r155, rfl, h152, h154, h156⟩⟩ := q148
      have q149 : v144 = (Pt b68 0) := q149
      obtain rfl := q149
      show wpList _ _ _ _ (fr [(.slice p_pts L_pts.length q_pts), Ud, (Pt b2 0), (u79 3), (Pt b68 0), (Iv (k : Int)), v11, v12, v13, v14, v15, v16, v17, (Bo (β1 || β2)), Ud, v42, v43, v44, v45, v46, v47, (.agg #[(Fl r56), (Fl r58), (Fl r60), (Fl r62), (Fl r64), (Fl r66)]), (Iv (k : Int)), (.slice p_pts L_pts.length q_pts), (Iv (L_pts.length : Int)), (Bo (icmp .lss (k : Int) (L_pts.length : Int))), (u79 26), (u79 27), (.slice p_pts L_pts.length q_pts), (Iv (k : Int)), (Pt b106 o107), (.agg #[(Fl r110), (Fl r112), (Fl r114)]), (Bo (finV el2)), (Bo (!(finV el2))), (u79 34), v137, v138, v139, v140, v141, v142, (.agg #[(Fl r151), (Fl r153), (Fl r155)]), (Pt b68 0), (u79 43), (u79 44), (u79 45), (u79 46), (u79 47), (u79 48), (u79 49), (u79 50), Ud]) _
      refine seqn rfl rfl (does_store (n := 3) (cs := [(Fl r88), (Fl r90), (Fl r92), (Fl r94), (Fl r96), (Fl r98)]) (u := (.agg #[(Fl r151), (Fl r153), (Fl r155)])) (ev rfl) (ev rfl) Try.sizeOf26 rfl (((hB85.ext E116).ext E134).ext E146) (Nat.le_of_ble_eq_true rfl) rfl) ?_; rintro _ w159 ⟨rfl, W157, hB158⟩
      change Blk _ _ [(Fl r151), (Fl r153), (Fl r155), (Fl r94), (Fl r96), (Fl r98)] at hB158
      have X160 := Below.wr X150 W157 g72
      refine wpList_nil (hK132 _ _ ?_)
      refine region_draw (
        [Fact.pure [] (fun v => v = (Pt b68 3)),
    Fact.pure [43] (fun v => v = (.agg #[(Fl r94), (Fl r96), (Fl r98)])),
    Fact.pure [] (fun v => v = (.slice p_pts L_pts.length q_pts)),
    Fact.pure [] (fun v => v = (Iv (k : Int))),
    Fact.mem [45, 46] (fun v w' => PtrR RV3 w' v el2) (by intro v w1 w2 hx h; exact h.ext RV3.mono hx),
    Fact.pure [47] (fun v => ∃ cs_1 : List Value, v = (.agg cs_1.toArray) ∧ RV3 w el2 cs_1),
    Fact.pure [44, 48] (fun v => ∃ cs_1 : List Value, v = (.agg cs_1.toArray) ∧ RV3 w (vmax (boxTo L_pts k).hi el2) cs_1),
    Fact.pure [] (fun v => v = (Pt b68 3))]) mixed (by kernel_rfl) (by intro _ _ d _ _ h; cases d <;> exact h) ?_
      obtain ⟨w161, hw163⟩ : ∃ w', w' = World.drew w159 := ⟨_, rfl⟩; rw [← hw163]; have E162 : Ext w159 w161 := by rw [hw163]; exact Ext.draw _
      clear hw163
      have X164 := Ext.gr X160 E162
      refine RW_d (fun v165 => [(.slice p_pts L_pts.length q_pts), Ud, (Pt b2 0), (u79 3), (Pt b68 0), (Iv (k : Int)), v11, v12, v13, v14, v15, v16, v17, (Bo (β1 || β2)), Ud, v42, v43, v44, v45, v46, v47, (.agg #[(Fl r56), (Fl r58), (Fl r60), (Fl r62), (Fl r64), (Fl r66)]), (Iv (k : Int)), (.slice p_pts L_pts.length q_pts), (Iv (L_pts.length : Int)), (Bo (icmp .lss (k : Int) (L_pts.length : Int))), (u79 26), (u79 27), (.slice p_pts L_pts.length q_pts), (Iv (k : Int)), (Pt b106 o107), (.agg #[(Fl r110), (Fl r112), (Fl r114)]), (Bo (finV el2)), (Bo (!(finV el2))), (u79 34), v137, v138, v139, v140, v141, v142, (.agg #[(Fl r151), (Fl r153), (Fl r155)]), (Pt b68 0), v165, (u79 44), (u79 45), (u79 46), (u79 47), (u79 48), (u79 49), (u79 50), Ud]) rfl (fun _ => rfl) (fun u hu hF => ?_) (fun v165 => ?_)
      · clear hF
        refine doesG_un rfl ?_
        refine (does_fieldAddr (ev rfl) fa28_1).mono ?_; rintro _ _ ⟨rfl, rfl⟩
        exact ⟨rfl, Ext.refl _⟩
      refine RW_d (fun v166 => [(.slice p_pts L_pts.length q_pts), Ud, (Pt b2 0), (u79 3), (Pt b68 0), (Iv (k : Int)), v11, v12, v13, v14, v15, v16, v17, (Bo (β1 || β2)), Ud, v42, v43, v44, v45, v46, v47, (.agg #[(Fl r56), (Fl r58), (Fl r60), (Fl r62), (Fl r64), (Fl r66)]), (Iv (k : Int)), (.slice p_pts L_pts.length q_pts), (Iv (L_pts.length : Int)), (Bo (icmp .lss (k : Int) (L_pts.length : Int))), (u79 26), (u79 27), (.slice p_pts L_pts.length q_pts), (Iv (k : Int)), (Pt b106 o107), (.agg #[(Fl r110), (Fl r112), (Fl r114)]), (Bo (finV el2)), (Bo (!(finV el2))), (u79 34), v137, v138, v139, v140, v141, v142, (.agg #[(Fl r151), (Fl r153), (Fl r155)]), (Pt b68 0), v165, v166, (u79 45), (u79 46), (u79 47), (u79 48), (u79 49), (u79 50), Ud]) rfl (fun _ => rfl) (fun u hu hF => ?_) (fun v166 => ?_)
      · have h43_ : v165 = (Pt b68 3) := hF.1
        clear hF
        refine doesG_un rfl ?_
        obtain rfl := h43_
        refine (does_loadAgg (cs := [(Fl r94), (Fl r96), (Fl r98)]) (ev rfl) Try.isAgg26 Try.sizeOf26 (Cells.sub (Blk.cells ((hB158.ext E162).ext hu)) 3 3) rfl).mono ?_; rintro _ _ ⟨rfl, rfl⟩
        exact ⟨rfl, Ext.refl _⟩
      refine RW_d (fun v167 => [(.slice p_pts L_pts.length q_pts), Ud, (Pt b2 0), (u79 3), (Pt b68 0), (Iv (k : Int)), v11, v12, v13, v14, v15, v16, v17, (Bo (β1 || β2)), Ud, v42, v43, v44, v45, v46, v47, (.agg #[(Fl r56), (Fl r58), (Fl r60), (Fl r62), (Fl r64), (Fl r66)]), (Iv (k : Int)), (.slice p_pts L_pts.length q_pts), (Iv (L_pts.length : Int)), (Bo (icmp .lss (k : Int) (L_pts.length : Int))), (u79 26), (u79 27), (.slice p_pts L_pts.length q_pts), (Iv (k : Int)), (Pt b106 o107), (.agg #[(Fl r110), (Fl r112), (Fl r114)]), (Bo (finV el2)), (Bo (!(finV el2))), (u79 34), v137, v138, v139, v140, v141, v142, (.agg #[(Fl r151), (Fl r153), (Fl r155)]), (Pt b68 0), v165, v166, v167, (u79 46), (u79 47), (u79 48), (u79 49), (u79 50), Ud]) rfl (fun _ => rfl) (fun u hu hF => ?_) (fun v167 => ?_)
      · clear hF
        refine doesG_un rfl ?_
        refine (does_move (u := (.slice p_pts L_pts.length q_pts)) (ev rfl)).mono ?_; rintro _ _ ⟨rfl, rfl⟩
        exact ⟨rfl, Ext.refl _⟩
      refine RW_d (fun v168 => [(.slice p_pts L_pts.length q_pts), Ud, (Pt b2 0), (u79 3), (Pt b68 0), (Iv (k : Int)), v11, v12, v13, v14, v15, v16, v17, (Bo (β1 || β2)), Ud, v42, v43, v44, v45, v46, v47, (.agg #[(Fl r56), (Fl r58), (Fl r60), (Fl r62), (Fl r64), (Fl r66)]), (Iv (k : Int)), (.slice p_pts L_pts.length q_pts), (Iv (L_pts.length : Int)), (Bo (icmp .lss (k : Int) (L_pts.length : Int))), (u79 26), (u79 27), (.slice p_pts L_pts.length q_pts), (Iv (k : Int)), (Pt b106 o107), (.agg #[(Fl r110), (Fl r112), (Fl r114)]), (Bo (finV el2)), (Bo (!(finV el2))), (u79 34), v137, v138, v139, v140, v141, v142, (.agg #[(Fl r151), (Fl r153), (Fl r155)]), (Pt b68 0), v165, v166, v167, v168, (u79 47), (u79 48), (u79 49), (u79 50), Ud]) rfl (fun _ => rfl) (fun u hu hF => ?_) (fun v168 => ?_)
      · clear hF
        refine doesG_un rfl ?_
        refine (does_move (u := (Iv (k : Int))) (ev rfl)).mono ?_; rintro _ _ ⟨rfl, rfl⟩
        exact ⟨rfl, Ext.refl _⟩
      refine RW_d (fun v169 => [(.slice p_pts L_pts.length q_pts), Ud, (Pt b2 0), (u79 3), (Pt b68 0), (Iv (k : Int)), v11, v12, v13, v14, v15, v16, v17, (Bo (β1 || β2)), Ud, v42, v43, v44, v45, v46, v47, (.agg #[(Fl r56), (Fl r58), (Fl r60), (Fl r62), (Fl r64), (Fl r66)]), (Iv (k : Int)), (.slice p_pts L_pts.length q_pts), (Iv (L_pts.length : Int)), (Bo (icmp .lss (k : Int) (L_pts.length : Int))), (u79 26), (u79 27), (.slice p_pts L_pts.length q_pts), (Iv (k : Int)), (Pt b106 o107), (.agg #[(Fl r110), (Fl r112), (Fl r114)]), (Bo (finV el2)), (Bo (!(finV el2))), (u79 34), v137, v138, v139, v140, v141, v142, (.agg #[(Fl r151), (Fl r153), (Fl r155)]), (Pt b68 0), v165, v166, v167, v168, v169, (u79 48), (u79 49), (u79 50), Ud]) rfl (fun _ => rfl) (fun u hu hF => ?_) (fun v169 => ?_)
      · have h45_ : v167 = (.slice p_pts L_pts.length q_pts) := hF.1
        have h46_ : v168 = (Iv (k : Int)) := hF.2.1
        clear hF
        refine doesG_un rfl ?_
        obtain rfl := h45_
        obtain rfl := h46_
        refine (does_indexSl (R := RV3) (i := (k : Int)) (xs := L_pts) (e := el2) Try.underlying31 Try.sizeOf26 (ev rfl) (ev rfl) (Sl.ext (Sl.ext hv_pts RV3.mono (Ext.gr X160 E162)) RV3.mono hu) (by omega) hel2).mono ?_; rintro v u' ⟨b, of, cs, hv, hc, hR, hu'⟩; subst hu'
        exact ⟨⟨b, of, cs, hv, hc, hR⟩, Ext.refl _⟩
      refine RW_d (fun v170 => [(.slice p_pts L_pts.length q_pts), Ud, (Pt b2 0), (u79 3), (Pt b68 0), (Iv (k : Int)), v11, v12, v13, v14, v15, v16, v17, (Bo (β1 || β2)), Ud, v42, v43, v44, v45, v46, v47, (.agg #[(Fl r56), (Fl r58), (Fl r60), (Fl r62), (Fl r64), (Fl r66)]), (Iv (k : Int)), (.slice p_pts L_pts.length q_pts), (Iv (L_pts.length : Int)), (Bo (icmp .lss (k : Int) (L_pts.length : Int))), (u79 26), (u79 27), (.slice p_pts L_pts.length q_pts), (Iv (k : Int)), (Pt b106 o107), (.agg #[(Fl r110), (Fl r112), (Fl r114)]), (Bo (finV el2)), (Bo (!(finV el2))), (u79 34), v137, v138, v139, v140, v141, v142, (.agg #[(Fl r151), (Fl r153), (Fl r155)]), (Pt b68 0), v165, v166, v167, v168, v169, v170, (u79 49), (u79 50), Ud]) rfl (fun _ => rfl) (fun u hu hF => ?_) (fun v170 => ?_)
      · have h47_ : PtrR RV3 u v169 el2 := hF.1
        clear hF
        refine doesG_un rfl ?_
        obtain ⟨b47_, o47_, _, rfl, hc47_, ⟨r47_1, r47_3, r47_5, rfl, h47_2, h47_4, h47_6⟩⟩ := h47_
        refine (does_loadAgg (cs := [(Fl r47_1), (Fl r47_3), (Fl r47_5)]) (ev rfl) Try.isAgg26 Try.sizeOf26 hc47_ rfl).mono ?_; rintro _ _ ⟨rfl, rfl⟩
        exact ⟨⟨[(Fl r47_1), (Fl r47_3), (Fl r47_5)], rfl, ⟨r47_1, r47_3, r47_5, rfl, (by first | assumption | rfl), (by first | assumption | rfl), (by first | assumption | rfl)⟩⟩, Ext.refl _⟩
      refine RW_d (fun v171 => [(.slice p_pts L_pts.length q_pts), Ud, (Pt b2 0), (u79 3), (Pt b68 0), (Iv (k : Int)), v11, v12, v13, v14, v15, v16, v17, (Bo (β1 || β2)), Ud, v42, v43, v44, v45, v46, v47, (.agg #[(Fl r56), (Fl r58), (Fl r60), (Fl r62), (Fl r64), (Fl r66)]), (Iv (k : Int)), (.slice p_pts L_pts.length q_pts), (Iv (L_pts.length : Int)), (Bo (icmp .lss (k : Int) (L_pts.length : Int))), (u79 26), (u79 27), (.slice p_pts L_pts.length q_pts), (Iv (k : Int)), (Pt b106 o107), (.agg #[(Fl r110), (Fl r112), (Fl r114)]), (Bo (finV el2)), (Bo (!(finV el2))), (u79 34), v137, v138, v139, v140, v141, v142, (.agg #[(Fl r151), (Fl r153), (Fl r155)]), (Pt b68 0), v165, v166, v167, v168, v169, v170, v171, (u79 50), Ud]) rfl (fun _ => rfl) (fun u hu hF => ?_) (fun v171 => ?_)
      · have h44_ : v166 = (.agg #[(Fl r94), (Fl r96), (Fl r98)]) := hF.1
        have h48_ : ∃ cs_1 : List Value, v170 = (.agg cs_1.toArray) ∧ RV3 w el2 cs_1 := hF.2.1
        clear hF
        refine doesG_un rfl ?_
        obtain rfl := h44_
        obtain ⟨_, rfl, ⟨r48_1, r48_3, r48_5, rfl, h48_2, h48_4, h48_6⟩⟩ := h48_
        refine (does_call (args := #[(.agg #[(Fl r94), (Fl r96), (Fl r98)]), (.agg #[(Fl r48_1), (Fl r48_3), (Fl r48_5)])]) cal54 (evs rfl) (c_spec_l04High [(Fl r94), (Fl r96), (Fl r98)] (boxTo L_pts k).hi [(Fl r48_1), (Fl r48_3), (Fl r48_5)] el2 _ ⟨r94, r96, r98, rfl, h95, h97, h99⟩ ⟨r48_1, r48_3, r48_5, rfl, (by assumption), (by assumption), (by assumption)⟩)).mono ?_; rintro v u' ⟨hx, ⟨csn1, hv, k0⟩⟩
        exact ⟨⟨csn1, hv.trans (by simp only [h48_2, h48_4, h48_6]), (by first | exact k0 | simpa only [h48_2, h48_4, h48_6] using RV3.any (w := w) k0)⟩, hx⟩
      refine RW_d (fun v172 => [(.slice p_pts L_pts.length q_pts), Ud, (Pt b2 0), (u79 3), (Pt b68 0), (Iv (k : Int)), v11, v12, v13, v14, v15, v16, v17, (Bo (β1 || β2)), Ud, v42, v43, v44, v45, v46, v47, (.agg #[(Fl r56), (Fl r58), (Fl r60), (Fl r62), (Fl r64), (Fl r66)]), (Iv (k : Int)), (.slice p_pts L_pts.length q_pts), (Iv (L_pts.length : Int)), (Bo (icmp .lss (k : Int) (L_pts.length : Int))), (u79 26), (u79 27), (.slice p_pts L_pts.length q_pts), (Iv (k : Int)), (Pt b106 o107), (.agg #[(Fl r110), (Fl r112), (Fl r114)]), (Bo (finV el2)), (Bo (!(finV el2))), (u79 34), v137, v138, v139, v140, v141, v142, (.agg #[(Fl r151), (Fl r153), (Fl r155)]), (Pt b68 0), v165, v166, v167, v168, v169, v170, v171, v172, Ud]) rfl (fun _ => rfl) (fun u hu hF => ?_) (fun v172 => ?_)
      · clear hF
        refine doesG_un rfl ?_
        refine (does_fieldAddr (ev rfl) fa28_1).mono ?_; rintro _ _ ⟨rfl, rfl⟩
        exact ⟨rfl, Ext.refl _⟩
      refine RW_fin ?_; intro w173 E174 hP175
      obtain ⟨⟨⟨⟨⟨⟨⟨⟨-, -⟩, -⟩, -⟩, -⟩, -⟩, -⟩, q176⟩, q177⟩ := hP175
      have X178 := Ext.gr X164 E174
      have q176 : ∃ cs_1 : List Value, v171 = (.agg cs_1.toArray) ∧ RV3 w (vmax (boxTo L_pts k).hi el2) cs_1 := q176
      obtain ⟨_, rfl, ⟨r179, r181, r183, rfl, h180, h182, h184⟩⟩ := q176
      have q177 : v172 = (Pt b68 3) := q177
      obtain rfl := q177
      show wpList _ _ _ _ (fr [(.slice p_pts L_pts.length q_pts), Ud, (Pt b2 0), (u79 3), (Pt b68 0), (Iv (k : Int)), v11, v12, v13, v14, v15, v16, v17, (Bo (β1 || β2)), Ud, v42, v43, v44, v45, v46, v47, (.agg #[(Fl r56), (Fl r58), (Fl r60), (Fl r62), (Fl r64), (Fl r66)]), (Iv (k : Int)), (.slice p_pts L_pts.length q_pts), (Iv (L_pts.length : Int)), (Bo (icmp .lss (k : Int) (L_pts.length : Int))), (u79 26), (u79 27), (.slice p_pts L_pts.length q_pts), (Iv (k : Int)), (Pt b106 o107), (.agg #[(Fl r110), (Fl r112), (Fl r114)]), (Bo (finV el2)), (Bo (!(finV el2))), (u79 34), v137, v138, v139, v140, v141, v142, (.agg #[(Fl r151), (Fl r153), (Fl r155)]), (Pt b68 0), v165, v166, v167, v168, v169, v170, (.agg #[(Fl r179), (Fl r181), (Fl r183)]), (Pt b68 3), Ud]) _
      refine seqn rfl rfl (does_store (n := 3) (cs := [(Fl r151), (Fl r153), (Fl r155), (Fl r94), (Fl r96), (Fl r98)]) (u := (.agg #[(Fl r179), (Fl r181), (Fl r183)])) (ev rfl) (ev rfl) Try.sizeOf26 rfl ((hB158.ext E162).ext E174) (Nat.le_of_ble_eq_true rfl) rfl) ?_; rintro _ w187 ⟨rfl, W185, hB186⟩
      change Blk _ _ [(Fl r151), (Fl r153), (Fl r155), (Fl r179), (Fl r181), (Fl r183)] at hB186
      have X188 := Below.wr X178 W185 g72
      refine wpList_nil (hK103 _ _ ?_)
      refine wp_region_lit ?_
      refine q_is (l' := [(.slice p_pts L_pts.length q_pts), Ud, (Pt b2 0), (u79 3), (Pt b68 0), (Iv (k : Int)), v11, v12, v13, v14, v15, v16, v17, (Bo (β1 || β2)), Ud, v42, v43, v44, v45, v46, v47, (.agg #[(Fl r56), (Fl r58), (Fl r60), (Fl r62), (Fl r64), (Fl r66)]), (Iv (k : Int)), (.slice p_pts L_pts.length q_pts), (Iv (L_pts.length : Int)), (Bo (icmp .lss (k : Int) (L_pts.length : Int))), (Iv (k : Int)), (u79 27), (.slice p_pts L_pts.length q_pts), (Iv (k : Int)), (Pt b106 o107), (.agg #[(Fl r110), (Fl r112), (Fl r114)]), (Bo (finV el2)), (Bo (!(finV el2))), (u79 34), v137, v138, v139, v140, v141, v142, (.agg #[(Fl r151), (Fl r153), (Fl r155)]), (Pt b68 0), v165, v166, v167, v168, v169, v170, (.agg #[(Fl r179), (Fl r181), (Fl r183)]), (Pt b68 3), Ud]) rfl rfl (does_move (u := (Iv (k : Int))) (ev rfl)) rfl ?_
      refine q_is (l' := [(.slice p_pts L_pts.length q_pts), Ud, (Pt b2 0), (u79 3), (Pt b68 0), (Iv (k : Int)), v11, v12, v13, v14, v15, v16, v17, (Bo (β1 || β2)), Ud, v42, v43, v44, v45, v46, v47, (.agg #[(Fl r56), (Fl r58), (Fl r60), (Fl r62), (Fl r64), (Fl r66)]), (Iv (k : Int)), (.slice p_pts L_pts.length q_pts), (Iv (L_pts.length : Int)), (Bo (icmp .lss (k : Int) (L_pts.length : Int))), (Iv (k : Int)), (Iv ((k : Int) + 1)), (.slice p_pts L_pts.length q_pts), (Iv (k : Int)), (Pt b106 o107), (.agg #[(Fl r110), (Fl r112), (Fl r114)]), (Bo (finV el2)), (Bo (!(finV el2))), (u79 34), v137, v138, v139, v140, v141, v142, (.agg #[(Fl r151), (Fl r153), (Fl r155)]), (Pt b68 0), v165, v166, v167, v168, v169, v170, (.agg #[(Fl r179), (Fl r181), (Fl r183)]), (Pt b68 3), Ud]) rfl rfl (does_iarith (p := (k : Int)) (q := 1) (r := (k : Int) + 1) (ev rfl) (ev rfl) (.inl ⟨rfl, (in_i64 (by omega) (by omega)).symm⟩)) rfl ?_
      refine q_is (l' := [(.slice p_pts L_pts.length q_pts), Ud, (Pt b2 0), (u79 3), (Pt b68 0), (Iv ((k : Int) + 1)), v11, v12, v13, v14, v15, v16, v17, (Bo (β1 || β2)), Ud, v42, v43, v44, v45, v46, v47, (.agg #[(Fl r56), (Fl r58), (Fl r60), (Fl r62), (Fl r64), (Fl r66)]), (Iv (k : Int)), (.slice p_pts L_pts.length q_pts), (Iv (L_pts.length : Int)), (Bo (icmp .lss (k : Int) (L_pts.length : Int))), (Iv (k : Int)), (Iv ((k : Int) + 1)), (.slice p_pts L_pts.length q_pts), (Iv (k : Int)), (Pt b106 o107), (.agg #[(Fl r110), (Fl r112), (Fl r114)]), (Bo (finV el2)), (Bo (!(finV el2))), (u79 34), v137, v138, v139, v140, v141, v142, (.agg #[(Fl r151), (Fl r153), (Fl r155)]), (Pt b68 0), v165, v166, v167, v168, v169, v170, (.agg #[(Fl r179), (Fl r181), (Fl r183)]), (Pt b68 3), Ud]) rfl rfl (does_assign (u := (Iv ((k : Int) + 1))) (ev rfl)) rfl ?_
      refine wpList_nil ?_
      have hO189 : ∃ cs, Blk w187 b68 cs ∧ RBx w187 ((fun (k : Nat) => boxTo L_pts k) (k + 1)) cs := by
        refine ⟨[(Fl r151), (Fl r153), (Fl r155), (Fl r179), (Fl r181), (Fl r183)], hB186, ⟨r151, r153, r155, r179, r181, r183, ?_, ?_, ?_, ?_, ?_, ?_, ?_⟩⟩
        all_goals first | with_reducible rfl | (dsimp only; simp only [v2, vmin, vmax, hβ1, hβ2, hel1, h57, h59, h61, h63, h65, h67, h89, h91, h93, h95, h97, h99, hel2, h111, h113, h115, h152, h154, h156, h180, h182, h184]; done) | (simp only [boxTo_succ (by assumption), vmin, vmax, v2, v2, vmin, vmax, hβ1, hβ2, hel1, h57, h59, h61, h63, h65, h67, h89, h91, h93, h95, h97, h99, hel2, h111, h113, h115, h152, h154, h156, h180, h182, h184])
      refine ⟨k + 1, ⟨fun t => (([(.slice p_pts L_pts.length q_pts), Ud, (Pt b2 0), (u79 3), (Pt b68 0), (Iv ((k : Int) + 1)), v11, v12, v13, v14, v15, v16, v17, (Bo (β1 || β2)), Ud, v42, v43, v44, v45, v46, v47, (.agg #[(Fl r56), (Fl r58), (Fl r60), (Fl r62), (Fl r64), (Fl r66)]), (Iv (k : Int)), (.slice p_pts L_pts.length q_pts), (Iv (L_pts.length : Int)), (Bo (icmp .lss (k : Int) (L_pts.length : Int))), (Iv (k : Int)), (Iv ((k : Int) + 1)), (.slice p_pts L_pts.length q_pts), (Iv (k : Int)), (Pt b106 o107), (.agg #[(Fl r110), (Fl r112), (Fl r114)]), (Bo (finV el2)), (Bo (!(finV el2))), (u79 34), v137, v138, v139, v140, v141, v142, (.agg #[(Fl r151), (Fl r153), (Fl r155)]), (Pt b68 0), v165, v166, v167, v168, v169, v170, (.agg #[(Fl r179), (Fl r181), (Fl r183)]), (Pt b68 3), Ud] : List Value)[t]?).getD undef, ?_, (KpL.more (KpL.ext (KpL.ext (KpL.more (KpL.ext (KpL.ext (KpL.ext E82 E116) E134) E146) (KpL.of_wr W157) (allS (.inl (by simp)) all0)) E162) E174) (KpL.of_wr W185) (allS (.inl (by simp)) all0)), hO189, ?_⟩, ?_⟩
      · first | rfl | (simp only [Nat.cast_add, Nat.cast_one, Int.natCast_add, Int.natCast_one]; rfl)
      · exact ⟨by omega, AllTo.step hal (by assumption) (by assumption)⟩
      · omega
    have c102' := c102
    (try simp only [hβ1, hβ2, inI] at c102')
    (try simp only [hβ1, hβ2] at c102')
    (try simp only [icmp, Bool.and_eq_true, Bool.or_eq_true, Bool.and_eq_false_iff, Bool.or_eq_false_iff, Bool.not_eq_true', Bool.not_eq_false', decide_eq_true_eq, decide_eq_false_iff_not, beq_iff_eq, bne_iff_ne, beq_eq_false_iff_ne, bne_eq_false_iff_eq] at c102')
    refine wp_exit ?_
    refine hK77 _ _ ?_
    refine wp_seq_k fun K190 hK190 => ?_
    refine wp_region_lit ?_
    refine q_is (l' := [(.slice p_pts L_pts.length q_pts), Ud, (Pt b2 0), (u79 3), (Pt b68 0), (Iv (k : Int)), v11, v12, v13, v14, v15, v16, v17, (Bo (β1 || β2)), Ud, v42, v43, v44, v45, v46, v47, (.agg #[(Fl r56), (Fl r58), (Fl r60), (Fl r62), (Fl r64), (Fl r66)]), (Iv (k : Int)), (.slice p_pts L_pts.length q_pts), (Iv (L_pts.length : Int)), (Bo (icmp .lss (k : Int) (L_pts.length : Int))), (u79 26), (u79 27), (u79 28), (u79 29), (u79 30), (u79 31), (u79 32), (u79 33), (u79 34), (u79 35), (u79 36), (u79 37), (u79 38), (u79 39), (u79 40), (u79 41), (u79 42), (u79 43), (u79 44), (u79 45), (u79 46), (u79 47), (u79 48), (u79 49), (u79 50), (.agg #[(Fl r88), (Fl r90), (Fl r92), (Fl r94), (Fl r96), (Fl r98)])]) rfl rfl (does_loadAgg (cs := [(Fl r88), (Fl r90), (Fl r92), (Fl r94), (Fl r96), (Fl r98)]) (ev rfl) Try.isAgg28 Try.sizeOf28 (Blk.cells hB85) rfl) rfl ?_
    refine seqn rfl rfl (does_store (n := 6) (cs := [(Fl 0), (Fl 0), (Fl 0), (Fl 0), (Fl 0), (Fl 0)]) (u := (.agg #[(Fl r88), (Fl r90), (Fl r92), (Fl r94), (Fl r96), (Fl r98)])) (ev rfl) (ev rfl) Try.sizeOf28 rfl (((((hB4.ext E20).ext E39).ext E51).wr W73 (Nat.ne_of_lt n71)).kl E82 (ninS (Nat.ne_of_lt n71) nin0)) (Nat.le_of_ble_eq_true rfl) rfl) ?_; rintro _ w193 ⟨rfl, W191, hB192⟩
    change Blk _ _ [(Fl r88), (Fl r90), (Fl r92), (Fl r94), (Fl r96), (Fl r98)] at hB192
    have X194 := Below.wr X87 W191 g7
    refine q_is (l' := [(.slice p_pts L_pts.length q_pts), Ud, (Pt b2 0), (Bo true), (Pt b68 0), (Iv (k : Int)), v11, v12, v13, v14, v15, v16, v17, (Bo (β1 || β2)), Ud, v42, v43, v44, v45, v46, v47, (.agg #[(Fl r56), (Fl r58), (Fl r60), (Fl r62), (Fl r64), (Fl r66)]), (Iv (k : Int)), (.slice p_pts L_pts.length q_pts), (Iv (L_pts.length : Int)), (Bo (icmp .lss (k : Int) (L_pts.length : Int))), (u79 26), (u79 27), (u79 28), (u79 29), (u79 30), (u79 31), (u79 32), (u79 33), (u79 34), (u79 35), (u79 36), (u79 37), (u79 38), (u79 39), (u79 40), (u79 41), (u79 42), (u79 43), (u79 44), (u79 45), (u79 46), (u79 47), (u79 48), (u79 49), (u79 50), (.agg #[(Fl r88), (Fl r90), (Fl r92), (Fl r94), (Fl r96), (Fl r98)])]) rfl rfl (does_assign (u := (Bo true)) (ev rfl)) rfl ?_
    refine wpList_nil (hK190 _ _ ?_)
    refine wp_ret ?_
    refine ret_val (v := (.tuple #[(.agg #[(Fl r88), (Fl r90), (Fl r92), (Fl r94), (Fl r96), (Fl r98)]), (Bo true)])) (res_CT rfl (slot rfl) (run_loadAgg (cs := [(Fl r88), (Fl r90), (Fl r92), (Fl r94), (Fl r96), (Fl r98)]) Try.isAgg28 Try.sizeOf28 (Blk.cells hB192) rfl) (slot rfl)) X194 ?_
    try simp only [hβ1, hβ2, hel1, h57, h59, h61, h63, h65, h67, h89, h91, h93, h95, h97, h99] at c24 c102
    have x195 : (bxOk L_pts) = true := by first | exact bxOk_len (by assumption) | exact bxOk_len2 (by assumption) | exact bxOk_bad (by assumption) (by assumption) | exact bxOk_ok1 (by assumption) hal (by omega) | exact bxOk_ok2 (by assumption) hal (by omega) | (rw [bxOk_len (by assumption)]; simp only [gvA_f, zB, zV]; done) | (rw [bxOk_len2 (by assumption)]; simp only [gvA_f, zB, zV]; done) | (rw [bxOk_bad (by assumption) (by assumption)]; simp only [gvA_f, zB, zV]; done) | (rw [bxOk_ok1 (by assumption) hal (by omega), gvA_t, show L_pts.length = k by omega]; assumption) | (rw [bxOk_ok2 (by assumption) hal (by omega), gvA_t, show L_pts.length = k by omega]; assumption)
    have x196 : cf .f32 r88 = (gvA zB (bxOk L_pts) (boxTo L_pts L_pts.length)).lo.x := by first | exact bxOk_len (by assumption) | exact bxOk_len2 (by assumption) | exact bxOk_bad (by assumption) (by assumption) | exact bxOk_ok1 (by assumption) hal (by omega) | exact bxOk_ok2 (by assumption) hal (by omega) | (rw [bxOk_len (by assumption)]; simp only [gvA_f, zB, zV]; done) | (rw [bxOk_len2 (by assumption)]; simp only [gvA_f, zB, zV]; done) | (rw [bxOk_bad (by assumption) (by assumption)]; simp only [gvA_f, zB, zV]; done) | (rw [bxOk_ok1 (by assumption) hal (by omega), gvA_t, show L_pts.length = k by omega]; assumption) | (rw [bxOk_ok2 (by assumption) hal (by omega), gvA_t, show L_pts.length = k by omega]; assumption)
    have x197 : cf .f32 r90 = (gvA zB (bxOk L_pts) (boxTo L_pts L_pts.length)).lo.y := by first | exact bxOk_len (by assumption) | exact bxOk_len2 (by assumption) | exact bxOk_bad (by assumption) (by assumption) | exact bxOk_ok1 (by assumption) hal (by omega) | exact bxOk_ok2 (by assumption) hal (by omega) | (rw [bxOk_len (by assumption)]; simp only [gvA_f, zB, zV]; done) | (rw [bxOk_len2 (by assumption)]; simp only [gvA_f, zB, zV]; done) | (rw [bxOk_bad (by assumption) (by assumption)]; simp only [gvA_f, zB, zV]; done) | (rw [bxOk_ok1 (by assumption) hal (by omega), gvA_t, show L_pts.length = k by omega]; assumption) | (rw [bxOk_ok2 (by assumption) hal (by omega), gvA_t, show L_pts.length = k by omega]; assumption)
    have x198 : cf .f32 r92 = (gvA zB (bxOk L_pts) (boxTo L_pts L_pts.length)).lo.z := by first | exact bxOk_len (by assumption) | exact bxOk_len2 (by assumption) | exact bxOk_bad (by assumption) (by assumption) | exact bxOk_ok1 (by assumption) hal (by omega) | exact bxOk_ok2 (by assumption) hal (by omega) | (rw [bxOk_len (by assumption)]; simp only [gvA_f, zB, zV]; done) | (rw [bxOk_len2 (by assumption)]; simp only [gvA_f, zB, zV]; done) | (rw [bxOk_bad (by assumption) (by assumption)]; simp only [gvA_f, zB, zV]; done) | (rw [bxOk_ok1 (by assumption) hal (by omega), gvA_t, show L_pts.length = k by omega]; assumption) | (rw [bxOk_ok2 (by assumption) hal (by omega), gvA_t, show L_pts.length = k by omega]; assumption)
    have x199 : cf .f32 r94 = (gvA zB (bxOk L_pts) (boxTo L_pts L_pts.length)).hi.x := by first | exact bxOk_len (by assumption) | exact bxOk_len2 (by assumption) | exact bxOk_bad (by assumption) (by assumption) | exact bxOk_ok1 (by assumption) hal (by omega) | exact bxOk_ok2 (by assumption) hal (by omega) | (rw [bxOk_len (by assumption)]; simp only [gvA_f, zB, zV]; done) | (rw [bxOk_len2 (by assumption)]; simp only [gvA_f, zB, zV]; done) | (rw [bxOk_bad (by assumption) (by assumption)]; simp only [gvA_f, zB, zV]; done) | (rw [bxOk_ok1 (by assumption) hal (by omega), gvA_t, show L_pts.length = k by omega]; assumption) | (rw [bxOk_ok2 (by assumption) hal (by omega), gvA_t, show L_pts.length = k by omega]; assumption)
    have x200 : cf .f32 r96 = (gvA zB (bxOk L_pts) (boxTo L_pts L_pts.length)).hi.y := by first | exact bxOk_len (by assumption) | exact bxOk_len2 (by assumption) | exact bxOk_bad (by assumption) (by assumption) | exact bxOk_ok1 (by assumption) hal (by omega) | exact bxOk_ok2 (by assumption) hal (by omega) | (rw [bxOk_len (by assumption)]; simp only [gvA_f, zB, zV]; done) | (rw [bxOk_len2 (by assumption)]; simp only [gvA_f, zB, zV]; done) | (rw [bxOk_bad (by assumption) (by assumption)]; simp only [gvA_f, zB, zV]; done) | (rw [bxOk_ok1 (by assumption) hal (by omega), gvA_t, show L_pts.length = k by omega]; assumption) | (rw [bxOk_ok2 (by assumption) hal (by omega), gvA_t, show L_pts.length = k by omega]; assumption)
    have x201 : cf .f32 r98 = (gvA zB (bxOk L_pts) (boxTo L_pts L_pts.length)).hi.z := by first | exact bxOk_len (by assumption) | exact bxOk_len2 (by assumption) | exact bxOk_bad (by assumption) (by assumption) | exact bxOk_ok1 (by assumption) hal (by omega) | exact bxOk_ok2 (by assumption) hal (by omega) | (rw [bxOk_len (by assumption)]; simp only [gvA_f, zB, zV]; done) | (rw [bxOk_len2 (by assumption)]; simp only [gvA_f, zB, zV]; done) | (rw [bxOk_bad (by assumption) (by assumption)]; simp only [gvA_f, zB, zV]; done) | (rw [bxOk_ok1 (by assumption) hal (by omega), gvA_t, show L_pts.length = k by omega]; assumption) | (rw [bxOk_ok2 (by assumption) hal (by omega), gvA_t, show L_pts.length = k by omega]; assumption)
    exact ⟨[(Fl r88), (Fl r90), (Fl r92), (Fl r94), (Fl r96), (Fl r98)], (by first | rfl | rw [x195]), ⟨r88, r90, r92, r94, r96, r98, rfl, x196, x197, x198, x199, x200, x201⟩⟩

/- laws.toVector -/
theorem c_laws_toVector (a : List Value) (A_a : V3) (w : World) (hv_a : RV3 w A_a a) : Gives Try.prog 55 #[(.agg a.toArray)] w (fun v w' => ∃ cs_1 : List Value, v = (.agg cs_1.toArray) ∧ RV3 w A_a cs_1) := by
  obtain ⟨r1, r3, r5, rfl, h2, h4, h6⟩ := hv_a
  refine enter [(.agg #[(Fl r1), (Fl r3), (Fl r5)]), Ud, Ud, Ud, Ud, Ud, Ud, Ud, Ud, Ud, Ud, Ud, Ud, Ud] Try.func55 rfl Try.ntmps55 rfl ?_
  refine wp_seq_k fun K7 hK7 => ?_
  refine wp_region_lit ?_
  refine seqd rfl rfl (does_box (u := (.agg #[(Fl r1), (Fl r3), (Fl r5)])) (ev rfl)) ?_; rintro _ w12 ⟨b8, rfl, hb9, hB10, E11⟩
  have g13 : w.heap.size ≤ b8 := Nat.le_trans (Below.size (Ext.refl w)) hb9
  change Blk _ _ [(Fl r1), (Fl r3), (Fl r5)] at hB10
  have X14 := Ext.gr (Ext.refl w) E11
  show wpList _ _ _ _ (fr [(.agg #[(Fl r1), (Fl r3), (Fl r5)]), (Pt b8 0), Ud, Ud, Ud, Ud, Ud, Ud, Ud, Ud, Ud, Ud, Ud, Ud]) _
  refine seqd rfl rfl (does_alloc z26) ?_; rintro _ w19 ⟨b15, rfl, hb16, hB17, E18⟩
  have n20 : b8 < b15 := Nat.lt_of_lt_of_le (Blk.lt hB10) hb16
  have g21 : w.heap.size ≤ b15 := Nat.le_trans (Below.size X14) hb16
  change Blk _ _ [(Fl 0), (Fl 0), (Fl 0)] at hB17
  have X22 := Ext.gr X14 E18
  show wpList _ _ _ _ (fr [(.agg #[(Fl r1), (Fl r3), (Fl r5)]), (Pt b8 0), (Pt b15 0), Ud, Ud, Ud, Ud, Ud, Ud, Ud, Ud, Ud, Ud, Ud]) _
  refine wpList_nil (hK7 _ _ ?_)
  refine wp_seq_k fun K23 hK23 => ?_
  refine wp_region_lit ?_
  refine seqd rfl rfl (does_alloc z26) ?_; rintro _ w28 ⟨b24, rfl, hb25, hB26, E27⟩
  have n29 : b8 < b24 := Nat.lt_of_lt_of_le (Blk.lt (hB10.ext E18)) hb25
  have n30 : b15 < b24 := Nat.lt_of_lt_of_le (Blk.lt hB17) hb25
  have g31 : w.heap.size ≤ b24 := Nat.le_trans (Below.size X22) hb25
  change Blk _ _ [(Fl 0), (Fl 0), (Fl 0)] at hB26
  have X32 := Ext.gr X22 E27
  show wpList _ _ _ _ (fr [(.agg #[(Fl r1), (Fl r3), (Fl r5)]), (Pt b8 0), (Pt b15 0), (Pt b24 0), Ud, Ud, Ud, Ud, Ud, Ud, Ud, Ud, Ud, Ud]) _
  refine wpList_nil (hK23 _ _ ?_)
  refine wp_seq_k fun K33 hK33 => ?_
  refine wp_region_lit ?_
  refine q_is (l' := [(.agg #[(Fl r1), (Fl r3), (Fl r5)]), (Pt b8 0), (Pt b15 0), (Pt b24 0), (Pt b8 0), Ud, Ud, Ud, Ud, Ud, Ud, Ud, Ud, Ud]) rfl rfl (does_fieldAddr (ev rfl) fa43_0) rfl ?_
  refine q_is (l' := [(.agg #[(Fl r1), (Fl r3), (Fl r5)]), (Pt b8 0), (Pt b15 0), (Pt b24 0), (Pt b8 0), (Fl r1), Ud, Ud, Ud, Ud, Ud, Ud, Ud, Ud]) rfl rfl (does_load (u := (Fl r1)) (ev rfl) Try.isAgg24 (Cells.at (Blk.cells ((hB10.ext E18).ext E27)) 0 rfl)) rfl ?_
  refine q_is (l' := [(.agg #[(Fl r1), (Fl r3), (Fl r5)]), (Pt b8 0), (Pt b15 0), (Pt b24 0), (Pt b8 0), (Fl r1), (Pt b24 0), Ud, Ud, Ud, Ud, Ud, Ud, Ud]) rfl rfl (does_fieldAddr (ev rfl) fa26_0) rfl ?_
  refine seqn rfl rfl (does_store (n := 1) (cs := [(Fl 0), (Fl 0), (Fl 0)]) (u := (Fl r1)) (ev rfl) (ev rfl) Try.sizeOf24 rfl hB26 (Nat.le_of_ble_eq_true rfl) rfl) ?_; rintro _ w36 ⟨rfl, W34, hB35⟩
  change Blk _ _ [(Fl r1), (Fl 0), (Fl 0)] at hB35
  have X37 := Below.wr X32 W34 g31
  refine wpList_nil (hK33 _ _ ?_)
  refine wp_seq_k fun K38 hK38 => ?_
  refine wp_region_lit ?_
  refine q_is (l' := [(.agg #[(Fl r1), (Fl r3), (Fl r5)]), (Pt b8 0), (Pt b15 0), (Pt b24 0), (Pt b8 0), (Fl r1), (Pt b24 0), (Pt b8 1), Ud, Ud, Ud, Ud, Ud, Ud]) rfl rfl (does_fieldAddr (ev rfl) fa43_1) rfl ?_
  refine q_is (l' := [(.agg #[(Fl r1), (Fl r3), (Fl r5)]), (Pt b8 0), (Pt b15 0), (Pt b24 0), (Pt b8 0), (Fl r1), (Pt b24 0), (Pt b8 1), (Fl r3), Ud, Ud, Ud, Ud, Ud]) rfl rfl (does_load (u := (Fl r3)) (ev rfl) Try.isAgg24 (Cells.at (Blk.cells (((hB10.ext E18).ext E27).wr W34 (Nat.ne_of_lt n29))) 1 rfl)) rfl ?_
  refine q_is (l' := [(.agg #[(Fl r1), (Fl r3), (Fl r5)]), (Pt b8 0), (Pt b15 0), (Pt b24 0), (Pt b8 0), (Fl r1), (Pt b24 0), (Pt b8 1), (Fl r3), (Pt b24 1), Ud, Ud, Ud, Ud]) rfl rfl (does_fieldAddr (ev rfl) fa26_1) rfl ?_
  refine seqn rfl rfl (does_store (n := 1) (cs := [(Fl r1), (Fl 0), (Fl 0)]) (u := (Fl r3)) (ev rfl) (ev rfl) Try.sizeOf24 rfl hB35 (Nat.le_of_ble_eq_true rfl) rfl) ?_; rintro _ w41 ⟨rfl, W39, hB40⟩
  change Blk _ _ [(Fl r1), (Fl r3), (Fl 0)] at hB40
  have X42 := Below.wr X37 W39 g31
  refine wpList_nil (hK38 _ _ ?_)
  refine wp_seq_k fun K43 hK43 => ?_
  refine wp_region_lit ?_
  refine q_is (l' := [(.agg #[(Fl r1), (Fl r3), (Fl r5)]), (Pt b8 0), (Pt b15 0), (Pt b24 0), (Pt b8 0), (Fl r1), (Pt b24 0), (Pt b8 1), (Fl r3), (Pt b24 1), (Pt b8 2), Ud, Ud, Ud]) rfl rfl (does_fieldAddr (ev rfl) fa43_2) rfl ?_
  refine q_is (l' := [(.agg #[(Fl r1), (Fl r3), (Fl r5)]), (Pt b8 0), (Pt b15 0), (Pt b24 0), (Pt b8 0), (Fl r1), (Pt b24 0), (Pt b8 1), (Fl r3), (Pt b24 1), (Pt b8 2), (Fl r5), Ud, Ud]) rfl rfl (does_load (u := (Fl r5)) (ev rfl) Try.isAgg24 (Cells.at (Blk.cells ((((hB10.ext E18).ext E27).wr W34 (Nat.ne_of_lt n29)).wr W39 (Nat.ne_of_lt n29))) 2 rfl)) rfl ?_
  refine q_is (l' := [(.agg #[(Fl r1), (Fl r3), (Fl r5)]), (Pt b8 0), (Pt b15 0), (Pt b24 0), (Pt b8 0), (Fl r1), (Pt b24 0), (Pt b8 1), (Fl r3), (Pt b24 1), (Pt b8 2), (Fl r5), (Pt b24 2), Ud]) rfl rfl (does_fieldAddr (ev rfl) fa26_2) rfl ?_
  refine seqn rfl rfl (does_store (n := 1) (cs := [(Fl r1), (Fl r3), (Fl 0)]) (u := (Fl r5)) (ev rfl) (ev rfl) Try.sizeOf24 rfl hB40 (Nat.le_of_ble_eq_true rfl) rfl) ?_; rintro _ w46 ⟨rfl, W44, hB45⟩
  change Blk _ _ [(Fl r1), (Fl r3), (Fl r5)] at hB45
  have X47 := Below.wr X42 W44 g31
  refine wpList_nil (hK43 _ _ ?_)
  refine wp_seq_k fun K48 hK48 => ?_
  refine wp_region_lit ?_
  refine q_is (l' := [(.agg #[(Fl r1), (Fl r3), (Fl r5)]), (Pt b8 0), (Pt b15 0), (Pt b24 0), (Pt b8 0), (Fl r1), (Pt b24 0), (Pt b8 1), (Fl r3), (Pt b24 1), (Pt b8 2), (Fl r5), (Pt b24 2), (.agg #[(Fl r1), (Fl r3), (Fl r5)])]) rfl rfl (does_loadAgg (cs := [(Fl r1), (Fl r3), (Fl r5)]) (ev rfl) Try.isAgg26 Try.sizeOf26 (Blk.cells hB45) rfl) rfl ?_
  refine seqn rfl rfl (does_store (n := 3) (cs := [(Fl 0), (Fl 0), (Fl 0)]) (u := (.agg #[(Fl r1), (Fl r3), (Fl r5)])) (ev rfl) (ev rfl) Try.sizeOf26 rfl ((((hB17.ext E27).wr W34 (Nat.ne_of_lt n30)).wr W39 (Nat.ne_of_lt n30)).wr W44 (Nat.ne_of_lt n30)) (Nat.le_of_ble_eq_true rfl) rfl) ?_; rintro _ w51 ⟨rfl, W49, hB50⟩
  change Blk _ _ [(Fl r1), (Fl r3), (Fl r5)] at hB50
  have X52 := Below.wr X47 W49 g21
  refine wpList_nil (hK48 _ _ ?_)
  refine wp_ret ?_
  refine ret_val (v := (.agg #[(Fl r1), (Fl r3), (Fl r5)])) (res_C rfl (slot rfl) (run_loadAgg (cs := [(Fl r1), (Fl r3), (Fl r5)]) Try.isAgg26 Try.sizeOf26 (Blk.cells hB50) rfl)) X52 ?_
  exact ⟨[(Fl r1), (Fl r3), (Fl r5)], rfl, ⟨r1, r3, r5, rfl, h2, h4, h6⟩⟩

/- laws.toVectorS -/
theorem c_laws_toVectorS (a : Value) (L_a : List V3) (w : World) (hv_a : Sl RV3 3 w a L_a) (hsz : L_a.length ≤ 1048576) : Gives Try.prog 15 #[a] w (fun v w' => ∃ y_1 : Value, v = y_1 ∧ Hang w.heap.size w' (fun u => Sl RV3 3 u y_1 L_a)) := by
  have hlen_a := Sl.len hv_a; obtain ⟨p_a, q_a, rfl⟩ := Sl.shape hv_a
  refine enter [(.slice p_a L_a.length q_a), Ud, Ud, Ud, Ud, Ud, Ud, Ud, Ud, Ud, Ud, Ud, Ud, Ud, Ud, Ud, Ud, Ud, Ud, Ud, Ud, Ud, Ud] Try.func15 rfl Try.ntmps15 rfl ?_
  refine wp_seq_k fun K1 hK1 => ?_
  refine wp_region_lit ?_
  refine q_is (l' := [(.slice p_a L_a.length q_a), Ud, (.slice none 0 0), Ud, Ud, Ud, Ud, Ud, Ud, Ud, Ud, Ud, Ud, Ud, Ud, Ud, Ud, Ud, Ud, Ud, Ud, Ud, Ud]) rfl rfl (does_assign (u := (.slice none 0 0)) (ev rfl)) rfl ?_
  refine wpList_nil (hK1 _ _ ?_)
  refine wp_seq_k fun K2 hK2 => ?_
  refine wp_region_lit ?_
  refine q_is (l' := [(.slice p_a L_a.length q_a), Ud, (.slice none 0 0), Ud, Ud, (.slice p_a L_a.length q_a), Ud, Ud, Ud, Ud, Ud, Ud, Ud, Ud, Ud, Ud, Ud, Ud, Ud, Ud, Ud, Ud, Ud]) rfl rfl (does_move (u := (.slice p_a L_a.length q_a)) (ev rfl)) rfl ?_
  refine q_is (l' := [(.slice p_a L_a.length q_a), Ud, (.slice none 0 0), Ud, Ud, (.slice p_a L_a.length q_a), (Iv (L_a.length : Int)), Ud, Ud, Ud, Ud, Ud, Ud, Ud, Ud, Ud, Ud, Ud, Ud, Ud, Ud, Ud, Ud]) rfl rfl (does_len_slice Try.underlying22 (ev rfl)) rfl ?_
  refine seqd rfl rfl (does_makeSlice (n := L_a.length) Try.underlying31 inf26 (ev rfl) (ev rfl) (by omega)) ?_; rintro _ w7 ⟨b3, rfl, hb4, ⟨cs8, hB5, hl9, hz10⟩, E6⟩
  have g11 : w.heap.size ≤ b3 := Nat.le_trans (Below.size (Ext.refl w)) hb4
  have X12 := Ext.gr (Ext.refl w) E6
  show wpList _ _ _ _ (fr [(.slice p_a L_a.length q_a), Ud, (.slice none 0 0), Ud, Ud, (.slice p_a L_a.length q_a), (Iv (L_a.length : Int)), (.slice (some ⟨b3, 0, none⟩) L_a.length L_a.length), Ud, Ud, Ud, Ud, Ud, Ud, Ud, Ud, Ud, Ud, Ud, Ud, Ud, Ud, Ud]) _
  refine q_is (l' := [(.slice p_a L_a.length q_a), Ud, (.slice none 0 0), (.slice (some ⟨b3, 0, none⟩) L_a.length L_a.length), Ud, (.slice p_a L_a.length q_a), (Iv (L_a.length : Int)), (.slice (some ⟨b3, 0, none⟩) L_a.length L_a.length), Ud, Ud, Ud, Ud, Ud, Ud, Ud, Ud, Ud, Ud, Ud, Ud, Ud, Ud, Ud]) rfl rfl (does_assign (u := (.slice (some ⟨b3, 0, none⟩) L_a.length L_a.length)) (ev rfl)) rfl ?_
  refine wpList_nil (hK2 _ _ ?_)
  refine wp_seq_k fun K13 hK13 => ?_
  refine wp_seq_k fun K14 hK14 => ?_
  refine wp_region_lit ?_
  refine q_is (l' := [(.slice p_a L_a.length q_a), Ud, (.slice none 0 0), (.slice (some ⟨b3, 0, none⟩) L_a.length L_a.length), (Iv 0), (.slice p_a L_a.length q_a), (Iv (L_a.length : Int)), (.slice (some ⟨b3, 0, none⟩) L_a.length L_a.length), Ud, Ud, Ud, Ud, Ud, Ud, Ud, Ud, Ud, Ud, Ud, Ud, Ud, Ud, Ud]) rfl rfl (does_assign (u := (Iv 0)) (ev rfl)) rfl ?_
  refine wpList_nil (hK14 _ _ ?_)
  refine wp_block ?_
  have hF0 : Fill RV3 3 w7 b3 L_a.length L_a 0 := Fill.zero hB5 hl9
  refine loop_ghost (σ := Nat) (fun k a w' => ∃ u15 : Nat → Value, a = fr [(.slice p_a L_a.length q_a), Ud, (.slice none 0 0), (.slice (some ⟨b3, 0, none⟩) L_a.length L_a.length), (Iv (k : Int)), (.slice p_a L_a.length q_a), (Iv (L_a.length : Int)), (.slice (some ⟨b3, 0, none⟩) L_a.length L_a.length), (u15 8), (u15 9), (u15 10), (u15 11), (u15 12), (u15 13), (u15 14), (u15 15), (u15 16), (u15 17), (u15 18), (u15 19), (u15 20), (u15 21), Ud] ∧ KpL [b3] w7 w' ∧ Fill RV3 3 w' b3 L_a.length L_a k ∧ (k ≤ L_a.length)) (fun k => L_a.length - k) 0 ?_ ?_
  · refine ⟨fun t => (([(.slice p_a L_a.length q_a), Ud, (.slice none 0 0), (.slice (some ⟨b3, 0, none⟩) L_a.length L_a.length), (Iv 0), (.slice p_a L_a.length q_a), (Iv (L_a.length : Int)), (.slice (some ⟨b3, 0, none⟩) L_a.length L_a.length), Ud, Ud, Ud, Ud, Ud, Ud, Ud, Ud, Ud, Ud, Ud, Ud, Ud, Ud, Ud] : List Value)[t]?).getD undef, rfl, KpL.refl _ _, hF0, ?_⟩
    exact Nat.zero_le _
  · rintro k a w16 ⟨u15, rfl, E17, hF18, hk⟩
    have X19 := Below.kl X12 E17 (allS g11 all0) (Nat.le_refl _)
    refine wp_seq_k fun K20 hK20 => ?_
    refine wp_seq_k fun K21 hK21 => ?_
    refine wp_region_lit ?_
    refine q_is (l' := [(.slice p_a L_a.length q_a), Ud, (.slice none 0 0), (.slice (some ⟨b3, 0, none⟩) L_a.length L_a.length), (Iv (k : Int)), (.slice p_a L_a.length q_a), (Iv (L_a.length : Int)), (.slice (some ⟨b3, 0, none⟩) L_a.length L_a.length), (Iv (k : Int)), (u15 9), (u15 10), (u15 11), (u15 12), (u15 13), (u15 14), (u15 15), (u15 16), (u15 17), (u15 18), (u15 19), (u15 20), (u15 21), Ud]) rfl rfl (does_move (u := (Iv (k : Int))) (ev rfl)) rfl ?_
    refine q_is (l' := [(.slice p_a L_a.length q_a), Ud, (.slice none 0 0), (.slice (some ⟨b3, 0, none⟩) L_a.length L_a.length), (Iv (k : Int)), (.slice p_a L_a.length q_a), (Iv (L_a.length : Int)), (.slice (some ⟨b3, 0, none⟩) L_a.length L_a.length), (Iv (k : Int)), (.slice p_a L_a.length q_a), (u15 10), (u15 11), (u15 12), (u15 13), (u15 14), (u15 15), (u15 16), (u15 17), (u15 18), (u15 19), (u15 20), (u15 21), Ud]) rfl rfl (does_move (u := (.slice p_a L_a.length q_a)) (ev rfl)) rfl ?_
    refine q_is (l' := [(.slice p_a L_a.length q_a), Ud, (.slice none 0 0), (.slice (some ⟨b3, 0, none⟩) L_a.length L_a.length), (Iv (k : Int)), (.slice p_a L_a.length q_a), (Iv (L_a.length : Int)), (.slice (some ⟨b3, 0, none⟩) L_a.length L_a.length), (Iv (k : Int)), (.slice p_a L_a.length q_a), (Iv (L_a.length : Int)), (u15 11), (u15 12), (u15 13), (u15 14), (u15 15), (u15 16), (u15 17), (u15 18), (u15 19), (u15 20), (u15 21), Ud]) rfl rfl (does_len_slice Try.underlying22 (ev rfl)) rfl ?_
    refine q_is (l' := [(.slice p_a L_a.length q_a), Ud, (.slice none 0 0), (.slice (some ⟨b3, 0, none⟩) L_a.length L_a.length), (Iv (k : Int)), (.slice p_a L_a.length q_a), (Iv (L_a.length : Int)), (.slice (some ⟨b3, 0, none⟩) L_a.length L_a.length), (Iv (k : Int)), (.slice p_a L_a.length q_a), (Iv (L_a.length : Int)), (Bo (icmp .lss (k : Int) (L_a.length : Int))), (u15 12), (u15 13), (u15 14), (u15 15), (u15 16), (u15 17), (u15 18), (u15 19), (u15 20), (u15 21), Ud]) rfl rfl (does_icmp (p := (k : Int)) (q := (L_a.length : Int)) (.inr (.inr (.inl rfl))) (ev rfl) (ev rfl)) rfl ?_
    refine wpList_nil (hK21 _ _ ?_)
    refine wp_cond_split (t := icmp .lss (k : Int) (L_a.length : Int)) (ev rfl) (fun c22 => ?_) (fun c22 => ?_)
    · have c22' := c22
      (try simp only [icmp, Bool.and_eq_true, Bool.or_eq_true, Bool.and_eq_false_iff, Bool.or_eq_false_iff, Bool.not_eq_true', Bool.not_eq_false', decide_eq_true_eq, decide_eq_false_iff_not, beq_iff_eq, bne_iff_ne, beq_eq_false_iff_ne, bne_eq_false_iff_eq] at c22')
      refine wp_skip (hK20 _ _ ?_)
      refine wp_seq_k fun K23 hK23 => ?_
      refine wp_block ?_
      refine wp_region_lit ?_
      refine q_is (l' := [(.slice p_a L_a.length q_a), Ud, (.slice none 0 0), (.slice (some ⟨b3, 0, none⟩) L_a.length L_a.length), (Iv (k : Int)), (.slice p_a L_a.length q_a), (Iv (L_a.length : Int)), (.slice (some ⟨b3, 0, none⟩) L_a.length L_a.length), (Iv (k : Int)), (.slice p_a L_a.length q_a), (Iv (L_a.length : Int)), (Bo (icmp .lss (k : Int) (L_a.length : Int))), (u15 12), (u15 13), (.slice (some ⟨b3, 0, none⟩) L_a.length L_a.length), (u15 15), (u15 16), (u15 17), (u15 18), (u15 19), (u15 20), (u15 21), Ud]) rfl rfl (does_move (u := (.slice (some ⟨b3, 0, none⟩) L_a.length L_a.length)) (ev rfl)) rfl ?_
      refine q_is (l' := [(.slice p_a L_a.length q_a), Ud, (.slice none 0 0), (.slice (some ⟨b3, 0, none⟩) L_a.length L_a.length), (Iv (k : Int)), (.slice p_a L_a.length q_a), (Iv (L_a.length : Int)), (.slice (some ⟨b3, 0, none⟩) L_a.length L_a.length), (Iv (k : Int)), (.slice p_a L_a.length q_a), (Iv (L_a.length : Int)), (Bo (icmp .lss (k : Int) (L_a.length : Int))), (u15 12), (u15 13), (.slice (some ⟨b3, 0, none⟩) L_a.length L_a.length), (Iv (k : Int)), (u15 16), (u15 17), (u15 18), (u15 19), (u15 20), (u15 21), Ud]) rfl rfl (does_move (u := (Iv (k : Int))) (ev rfl)) rfl ?_
      refine q_is (l' := [(.slice p_a L_a.length q_a), Ud, (.slice none 0 0), (.slice (some ⟨b3, 0, none⟩) L_a.length L_a.length), (Iv (k : Int)), (.slice p_a L_a.length q_a), (Iv (L_a.length : Int)), (.slice (some ⟨b3, 0, none⟩) L_a.length L_a.length), (Iv (k : Int)), (.slice p_a L_a.length q_a), (Iv (L_a.length : Int)), (Bo (icmp .lss (k : Int) (L_a.length : Int))), (u15 12), (u15 13), (.slice (some ⟨b3, 0, none⟩) L_a.length L_a.length), (Iv (k : Int)), (.slice p_a L_a.length q_a), (u15 17), (u15 18), (u15 19), (u15 20), (u15 21), Ud]) rfl rfl (does_move (u := (.slice p_a L_a.length q_a)) (ev rfl)) rfl ?_
      refine q_is (l' := [(.slice p_a L_a.length q_a), Ud, (.slice none 0 0), (.slice (some ⟨b3, 0, none⟩) L_a.length L_a.length), (Iv (k : Int)), (.slice p_a L_a.length q_a), (Iv (L_a.length : Int)), (.slice (some ⟨b3, 0, none⟩) L_a.length L_a.length), (Iv (k : Int)), (.slice p_a L_a.length q_a), (Iv (L_a.length : Int)), (Bo (icmp .lss (k : Int) (L_a.length : Int))), (u15 12), (u15 13), (.slice (some ⟨b3, 0, none⟩) L_a.length L_a.length), (Iv (k : Int)), (.slice p_a L_a.length q_a), (Iv (k : Int)), (u15 18), (u15 19), (u15 20), (u15 21), Ud]) rfl rfl (does_move (u := (Iv (k : Int))) (ev rfl)) rfl ?_
      obtain ⟨el1, hel1⟩ : ∃ e, L_a[k]? = some e := ⟨_, List.getElem?_eq_getElem (by omega)⟩
      refine seqd rfl rfl (does_indexSl (R := RV3) (i := (k : Int)) (xs := L_a) (e := el1) Try.underlying22 Try.sizeOf43 (ev rfl) (ev rfl) (Sl.ext hv_a RV3.mono X19) (by omega) hel1) ?_; rintro _ _ ⟨b24, o25, _, rfl, hc27, ⟨r28, r30, r32, rfl, h29, h31, h33⟩, rfl⟩
      show wpList _ _ _ _ (fr [(.slice p_a L_a.length q_a), Ud, (.slice none 0 0), (.slice (some ⟨b3, 0, none⟩) L_a.length L_a.length), (Iv (k : Int)), (.slice p_a L_a.length q_a), (Iv (L_a.length : Int)), (.slice (some ⟨b3, 0, none⟩) L_a.length L_a.length), (Iv (k : Int)), (.slice p_a L_a.length q_a), (Iv (L_a.length : Int)), (Bo (icmp .lss (k : Int) (L_a.length : Int))), (u15 12), (u15 13), (.slice (some ⟨b3, 0, none⟩) L_a.length L_a.length), (Iv (k : Int)), (.slice p_a L_a.length q_a), (Iv (k : Int)), (Pt b24 o25), (u15 19), (u15 20), (u15 21), Ud]) _
      refine q_is (l' := [(.slice p_a L_a.length q_a), Ud, (.slice none 0 0), (.slice (some ⟨b3, 0, none⟩) L_a.length L_a.length), (Iv (k : Int)), (.slice p_a L_a.length q_a), (Iv (L_a.length : Int)), (.slice (some ⟨b3, 0, none⟩) L_a.length L_a.length), (Iv (k : Int)), (.slice p_a L_a.length q_a), (Iv (L_a.length : Int)), (Bo (icmp .lss (k : Int) (L_a.length : Int))), (u15 12), (u15 13), (.slice (some ⟨b3, 0, none⟩) L_a.length L_a.length), (Iv (k : Int)), (.slice p_a L_a.length q_a), (Iv (k : Int)), (Pt b24 o25), (.agg #[(Fl r28), (Fl r30), (Fl r32)]), (u15 20), (u15 21), Ud]) rfl rfl (does_loadAgg (cs := [(Fl r28), (Fl r30), (Fl r32)]) (ev rfl) Try.isAgg43 Try.sizeOf43 hc27 rfl) rfl ?_
      refine seqd rfl rfl (does_call (args := #[(.agg #[(Fl r28), (Fl r30), (Fl r32)])]) cal55 (evs rfl) (c_laws_toVector [(Fl r28), (Fl r30), (Fl r32)] el1 _ ⟨r28, r30, r32, rfl, h29, h31, h33⟩)) ?_; rintro _ w35 ⟨E34, ⟨_, rfl, ⟨r36, r38, r40, rfl, h37, h39, h41⟩⟩⟩
      have X42 := Ext.gr X19 E34
      show wpList _ _ _ _ (fr [(.slice p_a L_a.length q_a), Ud, (.slice none 0 0), (.slice (some ⟨b3, 0, none⟩) L_a.length L_a.length), (Iv (k : Int)), (.slice p_a L_a.length q_a), (Iv (L_a.length : Int)), (.slice (some ⟨b3, 0, none⟩) L_a.length L_a.length), (Iv (k : Int)), (.slice p_a L_a.length q_a), (Iv (L_a.length : Int)), (Bo (icmp .lss (k : Int) (L_a.length : Int))), (u15 12), (u15 13), (.slice (some ⟨b3, 0, none⟩) L_a.length L_a.length), (Iv (k : Int)), (.slice p_a L_a.length q_a), (Iv (k : Int)), (Pt b24 o25), (.agg #[(Fl r28), (Fl r30), (Fl r32)]), (.agg #[(Fl r36), (Fl r38), (Fl r40)]), (u15 21), Ud]) _
      refine q_is (l' := [(.slice p_a L_a.length q_a), Ud, (.slice none 0 0), (.slice (some ⟨b3, 0, none⟩) L_a.length L_a.length), (Iv (k : Int)), (.slice p_a L_a.length q_a), (Iv (L_a.length : Int)), (.slice (some ⟨b3, 0, none⟩) L_a.length L_a.length), (Iv (k : Int)), (.slice p_a L_a.length q_a), (Iv (L_a.length : Int)), (Bo (icmp .lss (k : Int) (L_a.length : Int))), (u15 12), (u15 13), (.slice (some ⟨b3, 0, none⟩) L_a.length L_a.length), (Iv (k : Int)), (.slice p_a L_a.length q_a), (Iv (k : Int)), (Pt b24 o25), (.agg #[(Fl r28), (Fl r30), (Fl r32)]), (.agg #[(Fl r36), (Fl r38), (Fl r40)]), (Pt b3 (k * 3)), Ud]) rfl rfl (does_indexOwn (b := b3) (n := L_a.length) (i := (k : Int)) Try.underlying31 Try.sizeOf26 (ev rfl) (ev rfl) (by omega) (by omega)) rfl ?_
      refine seqn rfl rfl (does_fill (R := RV3) (k := 3) (n := L_a.length) (j := k) (xs := L_a) (u := (.agg #[(Fl r36), (Fl r38), (Fl r40)])) (e := el1) (ev rfl) (ev rfl) Try.sizeOf26 rfl rfl (Fill.ext hF18 RV3.mono E34) (by omega) hel1 (fun _ => ⟨r36, r38, r40, rfl, h37, h39, h41⟩) (fun _ _ _ _ h => h)) ?_; rintro _ w45 ⟨rfl, W43, hF44⟩
      have X46 := Below.wr X42 W43 g11
      refine wpList_nil (hK23 _ _ ?_)
      refine wp_region_lit ?_
      refine q_is (l' := [(.slice p_a L_a.length q_a), Ud, (.slice none 0 0), (.slice (some ⟨b3, 0, none⟩) L_a.length L_a.length), (Iv (k : Int)), (.slice p_a L_a.length q_a), (Iv (L_a.length : Int)), (.slice (some ⟨b3, 0, none⟩) L_a.length L_a.length), (Iv (k : Int)), (.slice p_a L_a.length q_a), (Iv (L_a.length : Int)), (Bo (icmp .lss (k : Int) (L_a.length : Int))), (Iv (k : Int)), (u15 13), (.slice (some ⟨b3, 0, none⟩) L_a.length L_a.length), (Iv (k : Int)), (.slice p_a L_a.length q_a), (Iv (k : Int)), (Pt b24 o25), (.agg #[(Fl r28), (Fl r30), (Fl r32)]), (.agg #[(Fl r36), (Fl r38), (Fl r40)]), (Pt b3 (k * 3)), Ud]) rfl rfl (does_move (u := (Iv (k : Int))) (ev rfl)) rfl ?_
      refine q_is (l' := [(.slice p_a L_a.length q_a), Ud, (.slice none 0 0), (.slice (some ⟨b3, 0, none⟩) L_a.length L_a.length), (Iv (k : Int)), (.slice p_a L_a.length q_a), (Iv (L_a.length : Int)), (.slice (some ⟨b3, 0, none⟩) L_a.length L_a.length), (Iv (k : Int)), (.slice p_a L_a.length q_a), (Iv (L_a.length : Int)), (Bo (icmp .lss (k : Int) (L_a.length : Int))), (Iv (k : Int)), (Iv ((k : Int) + 1)), (.slice (some ⟨b3, 0, none⟩) L_a.length L_a.length), (Iv (k : Int)), (.slice p_a L_a.length q_a), (Iv (k : Int)), (Pt b24 o25), (.agg #[(Fl r28), (Fl r30), (Fl r32)]), (.agg #[(Fl r36), (Fl r38), (Fl r40)]), (Pt b3 (k * 3)), Ud]) rfl rfl (does_iarith (p := (k : Int)) (q := 1) (r := (k : Int) + 1) (ev rfl) (ev rfl) (.inl ⟨rfl, (in_i64 (by omega) (by omega)).symm⟩)) rfl ?_
      refine q_is (l' := [(.slice p_a L_a.length q_a), Ud, (.slice none 0 0), (.slice (some ⟨b3, 0, none⟩) L_a.length L_a.length), (Iv ((k : Int) + 1)), (.slice p_a L_a.length q_a), (Iv (L_a.length : Int)), (.slice (some ⟨b3, 0, none⟩) L_a.length L_a.length), (Iv (k : Int)), (.slice p_a L_a.length q_a), (Iv (L_a.length : Int)), (Bo (icmp .lss (k : Int) (L_a.length : Int))), (Iv (k : Int)), (Iv ((k : Int) + 1)), (.slice (some ⟨b3, 0, none⟩) L_a.length L_a.length), (Iv (k : Int)), (.slice p_a L_a.length q_a), (Iv (k : Int)), (Pt b24 o25), (.agg #[(Fl r28), (Fl r30), (Fl r32)]), (.agg #[(Fl r36), (Fl r38), (Fl r40)]), (Pt b3 (k * 3)), Ud]) rfl rfl (does_assign (u := (Iv ((k : Int) + 1))) (ev rfl)) rfl ?_
      refine wpList_nil ?_
      refine ⟨k + 1, ⟨fun t => (([(.slice p_a L_a.length q_a), Ud, (.slice none 0 0), (.slice (some ⟨b3, 0, none⟩) L_a.length L_a.length), (Iv ((k : Int) + 1)), (.slice p_a L_a.length q_a), (Iv (L_a.length : Int)), (.slice (some ⟨b3, 0, none⟩) L_a.length L_a.length), (Iv (k : Int)), (.slice p_a L_a.length q_a), (Iv (L_a.length : Int)), (Bo (icmp .lss (k : Int) (L_a.length : Int))), (Iv (k : Int)), (Iv ((k : Int) + 1)), (.slice (some ⟨b3, 0, none⟩) L_a.length L_a.length), (Iv (k : Int)), (.slice p_a L_a.length q_a), (Iv (k : Int)), (Pt b24 o25), (.agg #[(Fl r28), (Fl r30), (Fl r32)]), (.agg #[(Fl r36), (Fl r38), (Fl r40)]), (Pt b3 (k * 3)), Ud] : List Value)[t]?).getD undef, ?_, (KpL.more (KpL.ext E17 E34) (KpL.of_wr W43) (allS (.inl (by simp)) all0)), hF44, ?_⟩, ?_⟩
      · first | rfl | (simp only [Nat.cast_add, Nat.cast_one, Int.natCast_add, Int.natCast_one]; rfl)
      · omega
      · omega
    have c22' := c22
    (try simp only [icmp, Bool.and_eq_true, Bool.or_eq_true, Bool.and_eq_false_iff, Bool.or_eq_false_iff, Bool.not_eq_true', Bool.not_eq_false', decide_eq_true_eq, decide_eq_false_iff_not, beq_iff_eq, bne_iff_ne, beq_eq_false_iff_ne, bne_eq_false_iff_eq] at c22')
    refine wp_exit ?_
    refine hK13 _ _ ?_
    refine wp_seq_k fun K47 hK47 => ?_
    refine wp_region_lit ?_
    refine q_is (l' := [(.slice p_a L_a.length q_a), Ud, (.slice none 0 0), (.slice (some ⟨b3, 0, none⟩) L_a.length L_a.length), (Iv (k : Int)), (.slice p_a L_a.length q_a), (Iv (L_a.length : Int)), (.slice (some ⟨b3, 0, none⟩) L_a.length L_a.length), (Iv (k : Int)), (.slice p_a L_a.length q_a), (Iv (L_a.length : Int)), (Bo (icmp .lss (k : Int) (L_a.length : Int))), (u15 12), (u15 13), (u15 14), (u15 15), (u15 16), (u15 17), (u15 18), (u15 19), (u15 20), (u15 21), (.slice (some ⟨b3, 0, none⟩) L_a.length L_a.length)]) rfl rfl (does_move (u := (.slice (some ⟨b3, 0, none⟩) L_a.length L_a.length)) (ev rfl)) rfl ?_
    refine q_is (l' := [(.slice p_a L_a.length q_a), Ud, (.slice (some ⟨b3, 0, none⟩) L_a.length L_a.length), (.slice (some ⟨b3, 0, none⟩) L_a.length L_a.length), (Iv (k : Int)), (.slice p_a L_a.length q_a), (Iv (L_a.length : Int)), (.slice (some ⟨b3, 0, none⟩) L_a.length L_a.length), (Iv (k : Int)), (.slice p_a L_a.length q_a), (Iv (L_a.length : Int)), (Bo (icmp .lss (k : Int) (L_a.length : Int))), (u15 12), (u15 13), (u15 14), (u15 15), (u15 16), (u15 17), (u15 18), (u15 19), (u15 20), (u15 21), (.slice (some ⟨b3, 0, none⟩) L_a.length L_a.length)]) rfl rfl (does_assign (u := (.slice (some ⟨b3, 0, none⟩) L_a.length L_a.length)) (ev rfl)) rfl ?_
    refine wpList_nil (hK47 _ _ ?_)
    refine wp_ret ?_
    refine ret_val (v := (.slice (some ⟨b3, 0, none⟩) L_a.length L_a.length)) (res_T rfl (slot rfl)) X19 ?_
    exact ⟨(.slice (some ⟨b3, 0, none⟩) L_a.length L_a.length), rfl, (Fill.hang hF18 RV3.flat g11 (by omega) rfl (by omega) (by decide))⟩

/- impl.in -/
theorem c_impl_in (n : Int) (low : Int) (high : Int) (w : World) : Gives Try.prog 56 #[(Iv n), (Iv low), (Iv high)] w (fun v w' => v = (Bo (inI n low high))) := by
  refine enter [(Iv n), (Iv low), (Iv high), Ud, Ud, Ud, Ud, Ud, Ud, Ud, Ud, Ud, Ud, Ud, Ud] Try.func56 rfl Try.ntmps56 rfl ?_
  refine wp_seq_k fun K1 hK1 => ?_
  refine wp_region_lit ?_
  refine q_is (l' := [(Iv n), (Iv low), (Iv high), Ud, Ud, Ud, (Bo false), Ud, Ud, Ud, Ud, Ud, Ud, Ud, Ud]) rfl rfl (does_assign (u := (Bo false)) (ev rfl)) rfl ?_
  refine wpList_nil (hK1 _ _ ?_)
  refine wp_seq_k fun K2 hK2 => ?_
  obtain ⟨β1, hβ1⟩ : ∃ b : Bool, b = ((icmp .geq n low) && (icmp .leq n high)) := ⟨_, rfl⟩
  refine region_text (
    [Fact.pure [] (fun v => v = (Iv n)),
    Fact.pure [] (fun v => v = (Iv low)),
    Fact.pure [7, 8] (fun v => v = (Bo (icmp .geq n low))),
    Fact.pure [9] (fun v => v = (Bo (icmp .geq n low))),
    Fact.pure [10] (fun v => (icmp .geq n low) = true → v = (Iv n)),
    Fact.pure [10] (fun v => (icmp .geq n low) = true → v = (Iv high)),
    Fact.pure [11, 12, 10] (fun v => (icmp .geq n low) = true → v = (Bo (icmp .leq n high))),
    Fact.pure [10, 13] (fun v => v = (Bo β1))]) (by simp [Fact.pure, Fact.mem]) ?_
  refine RW_d (fun v3 => [(Iv n), (Iv low), (Iv high), Ud, Ud, Ud, (Bo false), v3, Ud, Ud, Ud, Ud, Ud, Ud, Ud]) rfl (fun _ => rfl) (fun u hu hF => ?_) (fun v3 => ?_)
  · clear hF
    refine doesG_un rfl ?_
    refine (does_move (u := (Iv n)) (ev rfl)).mono ?_; rintro _ _ ⟨rfl, rfl⟩
    exact ⟨rfl, Ext.refl _⟩
  refine RW_d (fun v4 => [(Iv n), (Iv low), (Iv high), Ud, Ud, Ud, (Bo false), v3, v4, Ud, Ud, Ud, Ud, Ud, Ud]) rfl (fun _ => rfl) (fun u hu hF => ?_) (fun v4 => ?_)
  · clear hF
    refine doesG_un rfl ?_
    refine (does_move (u := (Iv low)) (ev rfl)).mono ?_; rintro _ _ ⟨rfl, rfl⟩
    exact ⟨rfl, Ext.refl _⟩
  refine RW_d (fun v5 => [(Iv n), (Iv low), (Iv high), Ud, Ud, Ud, (Bo false), v3, v4, v5, Ud, Ud, Ud, Ud, Ud]) rfl (fun _ => rfl) (fun u hu hF => ?_) (fun v5 => ?_)
  · have h7_ : v3 = (Iv n) := hF.1
    have h8_ : v4 = (Iv low) := hF.2.1
    clear hF
    refine doesG_un rfl ?_
    obtain rfl := h7_
    obtain rfl := h8_
    refine (does_icmp (p := n) (q := low) (.inr (.inr (.inr (.inr (.inr rfl))))) (ev rfl) (ev rfl)).mono ?_; rintro _ _ ⟨rfl, rfl⟩
    exact ⟨rfl, Ext.refl _⟩
  refine RW_d (fun v6 => [(Iv n), (Iv low), (Iv high), Ud, Ud, Ud, (Bo false), v3, v4, v5, v6, Ud, Ud, Ud, Ud]) rfl (fun _ => rfl) (fun u hu hF => ?_) (fun v6 => ?_)
  · have h9_ : v5 = (Bo (icmp .geq n low)) := hF.1
    clear hF
    refine doesG_un rfl ?_
    obtain rfl := h9_
    refine (does_move (u := (Bo (icmp .geq n low))) (ev rfl)).mono ?_; rintro _ _ ⟨rfl, rfl⟩
    exact ⟨rfl, Ext.refl _⟩
  refine RW_d (fun v7 => [(Iv n), (Iv low), (Iv high), Ud, Ud, Ud, (Bo false), v3, v4, v5, v6, v7, Ud, Ud, Ud]) rfl (fun _ => rfl) (fun u hu hF => ?_) (fun v7 => ?_)
  · have h10_ : v6 = (Bo (icmp .geq n low)) := hF.1
    clear hF
    obtain rfl := h10_
    refine doesG_g (b := (icmp .geq n low)) rfl (yld rfl rfl) (fun hg1 => ?_) (fun hc => ⟨fun hg1 => absurd hg1 hc, Ext.refl _⟩)
    refine (does_move (u := (Iv n)) (ev rfl)).mono ?_; rintro _ _ ⟨rfl, rfl⟩
    exact ⟨fun _ => rfl, Ext.refl _⟩
  refine RW_d (fun v8 => [(Iv n), (Iv low), (Iv high), Ud, Ud, Ud, (Bo false), v3, v4, v5, v6, v7, v8, Ud, Ud]) rfl (fun _ => rfl) (fun u hu hF => ?_) (fun v8 => ?_)
  · have h10_ : v6 = (Bo (icmp .geq n low)) := hF.1
    clear hF
    obtain rfl := h10_
    refine doesG_g (b := (icmp .geq n low)) rfl (yld rfl rfl) (fun hg1 => ?_) (fun hc => ⟨fun hg1 => absurd hg1 hc, Ext.refl _⟩)
    refine (does_move (u := (Iv high)) (ev rfl)).mono ?_; rintro _ _ ⟨rfl, rfl⟩
    exact ⟨fun _ => rfl, Ext.refl _⟩
  refine RW_d (fun v9 => [(Iv n), (Iv low), (Iv high), Ud, Ud, Ud, (Bo false), v3, v4, v5, v6, v7, v8, v9, Ud]) rfl (fun _ => rfl) (fun u hu hF => ?_) (fun v9 => ?_)
  · have h11_ : (icmp .geq n low) = true → v7 = (Iv n) := hF.1
    have h12_ : (icmp .geq n low) = true → v8 = (Iv high) := hF.2.1
    have h10_ : v6 = (Bo (icmp .geq n low)) := hF.2.2.1
    clear hF
    obtain rfl := h10_
    refine doesG_g (b := (icmp .geq n low)) rfl (yld rfl rfl) (fun hg1 => ?_) (fun hc => ⟨fun hg1 => absurd hg1 hc, Ext.refl _⟩)
    obtain rfl := h11_ hg1
    obtain rfl := h12_ hg1
    refine (does_icmp (p := n) (q := high) (.inr (.inr (.inr (.inl rfl)))) (ev rfl) (ev rfl)).mono ?_; rintro _ _ ⟨rfl, rfl⟩
    exact ⟨fun _ => rfl, Ext.refl _⟩
  refine RW_d (fun v10 => [(Iv n), (Iv low), (Iv high), Ud, Ud, Ud, (Bo false), v3, v4, v5, v6, v7, v8, v9, v10]) rfl (fun _ => rfl) (fun u hu hF => ?_) (fun v10 => ?_)
  · have h10_ : v6 = (Bo (icmp .geq n low)) := hF.1
    have h13_ : (icmp .geq n low) = true → v9 = (Bo (icmp .leq n high)) := hF.2.1
    clear hF
    refine doesG_un rfl ?_
    skip
    obtain rfl := h10_
    refine (does_pick (b := (icmp .geq n low)) (ev rfl) (ev rfl) (ev rfl)).mono ?_; rintro _ _ ⟨rfl, rfl⟩; refine ⟨?_, Ext.refl _⟩; rw [hβ1]; skip
    cases hbb : (icmp .geq n low) <;> simp [hbb] at h13_ ⊢
    all_goals (first | rfl | (subst h13_; rfl) | simp_all)
  refine RW_fin ?_; intro w11 E12 hP13
  obtain ⟨⟨⟨⟨⟨⟨⟨⟨-, -⟩, -⟩, -⟩, -⟩, -⟩, -⟩, -⟩, q14⟩ := hP13
  have X15 := Ext.gr (Ext.refl w) E12
  have q14 : v10 = (Bo β1) := q14
  obtain rfl := q14
  show wpList _ _ _ _ (fr [(Iv n), (Iv low), (Iv high), Ud, Ud, Ud, (Bo false), v3, v4, v5, v6, v7, v8, v9, (Bo β1)]) _
  refine q_is (l' := [(Iv n), (Iv low), (Iv high), Ud, Ud, Ud, (Bo β1), v3, v4, v5, v6, v7, v8, v9, (Bo β1)]) rfl rfl (does_assign (u := (Bo β1)) (ev rfl)) rfl ?_
  refine wpList_nil (hK2 _ _ ?_)
  refine wp_ret ?_
  refine ret_val (v := (Bo β1)) (res_T rfl (slot rfl)) X15 ?_
  have x16 : (inI n low high) = β1 := by first | with_reducible rfl | (simp only [inI, hβ1]; done) | (simp [inI, hβ1]; done) | rfl
  exact (by first | rfl | rw [x16])

/- slices.IndexFunc[[]float32,float32] -/
theorem c_slices_IndexFunc_float32_float32 (xs : Value) (L_xs : List Nat) (f : Value) (pr_f : Nat → Bool) (w : World) (hv_xs : Sl RF 1 w xs L_xs) (hv_f : TellsF Try.prog f w pr_f) : Gives Try.prog 115 #[xs, f] w (fun v w' => v = (Iv (findI pr_f L_xs))) := by
  have hlen_xs := Sl.len hv_xs; obtain ⟨p_xs, q_xs, rfl⟩ := Sl.shape hv_xs
  obtain ⟨f_f, s_f, c_f, rfl, hcal_f, hg_f⟩ := hv_f
  refine enter [(.slice p_xs L_xs.length q_xs), (.func (.func f_f) s_f c_f), Ud, Ud, Ud, Ud, Ud, Ud, Ud, Ud, Ud, Ud, Ud, Ud, Ud, Ud, Ud, Ud, Ud] Try.func115 rfl Try.ntmps115 rfl ?_
  refine wp_seq_k fun K1 hK1 => ?_
  refine wp_region_lit ?_
  refine q_is (l' := [(.slice p_xs L_xs.length q_xs), (.func (.func f_f) s_f c_f), Ud, Ud, (Iv 0), Ud, Ud, Ud, Ud, Ud, Ud, Ud, Ud, Ud, Ud, Ud, Ud, Ud, Ud]) rfl rfl (does_assign (u := (Iv 0)) (ev rfl)) rfl ?_
  refine wpList_nil (hK1 _ _ ?_)
  refine wp_seq_k fun K2 hK2 => ?_
  refine wp_seq_k fun K3 hK3 => ?_
  refine wp_region_lit ?_
  refine q_is (l' := [(.slice p_xs L_xs.length q_xs), (.func (.func f_f) s_f c_f), Ud, Ud, (Iv 0), Ud, (.slice p_xs L_xs.length q_xs), Ud, Ud, Ud, Ud, Ud, Ud, Ud, Ud, Ud, Ud, Ud, Ud]) rfl rfl (does_move (u := (.slice p_xs L_xs.length q_xs)) (ev rfl)) rfl ?_
  refine q_is (l' := [(.slice p_xs L_xs.length q_xs), (.func (.func f_f) s_f c_f), Ud, Ud, (Iv 0), Ud, (.slice p_xs L_xs.length q_xs), (Iv (L_xs.length : Int)), Ud, Ud, Ud, Ud, Ud, Ud, Ud, Ud, Ud, Ud, Ud]) rfl rfl (does_len_slice Try.underlying75 (ev rfl)) rfl ?_
  refine q_is (l' := [(.slice p_xs L_xs.length q_xs), (.func (.func f_f) s_f c_f), Ud, Ud, (Iv 0), Ud, (.slice p_xs L_xs.length q_xs), (Iv (L_xs.length : Int)), (Iv 0), Ud, Ud, Ud, Ud, Ud, Ud, Ud, Ud, Ud, Ud]) rfl rfl (does_move (u := (Iv 0)) (ev rfl)) rfl ?_
  refine wpList_nil (hK3 _ _ ?_)
  refine wp_block ?_
  refine loop_ghost (σ := Nat) (fun k a w' => ∃ u4 : Nat → Value, a = fr [(.slice p_xs L_xs.length q_xs), (.func (.func f_f) s_f c_f), Ud, Ud, (u4 4), (u4 5), (.slice p_xs L_xs.length q_xs), (Iv (L_xs.length : Int)), (Iv (k : Int)), (u4 9), (u4 10), (u4 11), (u4 12), (u4 13), (u4 14), (u4 15), (u4 16), (u4 17), (u4 18)] ∧ Ext w w' ∧ (k ≤ L_xs.length ∧ NoneTo pr_f L_xs k)) (fun k => L_xs.length - k) 0 ?_ ?_
  · refine ⟨fun t => (([(.slice p_xs L_xs.length q_xs), (.func (.func f_f) s_f c_f), Ud, Ud, (Iv 0), Ud, (.slice p_xs L_xs.length q_xs), (Iv (L_xs.length : Int)), (Iv 0), Ud, Ud, Ud, Ud, Ud, Ud, Ud, Ud, Ud, Ud] : List Value)[t]?).getD undef, rfl, Ext.refl _, ?_⟩
    exact ⟨Nat.zero_le _, NoneTo.zero⟩
  · rintro k a w5 ⟨u4, rfl, E6, ⟨hk, hno⟩⟩
    have X8 := Ext.gr (Ext.refl w) E6
    refine wp_seq_k fun K9 hK9 => ?_
    refine wp_region_lit ?_
    refine q_is (l' := [(.slice p_xs L_xs.length q_xs), (.func (.func f_f) s_f c_f), Ud, Ud, (u4 4), (u4 5), (.slice p_xs L_xs.length q_xs), (Iv (L_xs.length : Int)), (Iv (k : Int)), (Bo (icmp .lss (k : Int) (L_xs.length : Int))), (u4 10), (u4 11), (u4 12), (u4 13), (u4 14), (u4 15), (u4 16), (u4 17), (u4 18)]) rfl rfl (does_icmp (p := (k : Int)) (q := (L_xs.length : Int)) (.inr (.inr (.inl rfl))) (ev rfl) (ev rfl)) rfl ?_
    refine wpList_nil (hK9 _ _ ?_)
    refine wp_seq_k fun K10 hK10 => ?_
    refine wp_cond_split (t := icmp .lss (k : Int) (L_xs.length : Int)) (ev rfl) (fun c11 => ?_) (fun c11 => ?_)
    · have c11' := c11
      (try simp only [icmp, Bool.and_eq_true, Bool.or_eq_true, Bool.and_eq_false_iff, Bool.or_eq_false_iff, Bool.not_eq_true', Bool.not_eq_false', decide_eq_true_eq, decide_eq_false_iff_not, beq_iff_eq, bne_iff_ne, beq_eq_false_iff_ne, bne_eq_false_iff_eq] at c11')
      refine wp_skip (hK10 _ _ ?_)
      refine wp_seq_k fun K12 hK12 => ?_
      refine wp_block ?_
      refine wp_seq_k fun K13 hK13 => ?_
      refine wp_region_lit ?_
      refine q_is (l' := [(.slice p_xs L_xs.length q_xs), (.func (.func f_f) s_f c_f), Ud, Ud, (u4 4), (u4 5), (.slice p_xs L_xs.length q_xs), (Iv (L_xs.length : Int)), (Iv (k : Int)), (Bo (icmp .lss (k : Int) (L_xs.length : Int))), (Iv (k : Int)), (u4 11), (u4 12), (u4 13), (u4 14), (u4 15), (u4 16), (u4 17), (u4 18)]) rfl rfl (does_move (u := (Iv (k : Int))) (ev rfl)) rfl ?_
      refine q_is (l' := [(.slice p_xs L_xs.length q_xs), (.func (.func f_f) s_f c_f), Ud, Ud, (u4 4), (Iv (k : Int)), (.slice p_xs L_xs.length q_xs), (Iv (L_xs.length : Int)), (Iv (k : Int)), (Bo (icmp .lss (k : Int) (L_xs.length : Int))), (Iv (k : Int)), (u4 11), (u4 12), (u4 13), (u4 14), (u4 15), (u4 16), (u4 17), (u4 18)]) rfl rfl (does_assign (u := (Iv (k : Int))) (ev rfl)) rfl ?_
      refine wpList_nil (hK13 _ _ ?_)
      refine wp_seq_k fun K14 hK14 => ?_
      refine wp_region_lit ?_
      refine q_is (l' := [(.slice p_xs L_xs.length q_xs), (.func (.func f_f) s_f c_f), Ud, Ud, (u4 4), (Iv (k : Int)), (.slice p_xs L_xs.length q_xs), (Iv (L_xs.length : Int)), (Iv (k : Int)), (Bo (icmp .lss (k : Int) (L_xs.length : Int))), (Iv (k : Int)), (.func (.func f_f) s_f c_f), (u4 12), (u4 13), (u4 14), (u4 15), (u4 16), (u4 17), (u4 18)]) rfl rfl (does_move (u := (.func (.func f_f) s_f c_f)) (ev rfl)) rfl ?_
      refine q_is (l' := [(.slice p_xs L_xs.length q_xs), (.func (.func f_f) s_f c_f), Ud, Ud, (u4 4), (Iv (k : Int)), (.slice p_xs L_xs.length q_xs), (Iv (L_xs.length : Int)), (Iv (k : Int)), (Bo (icmp .lss (k : Int) (L_xs.length : Int))), (Iv (k : Int)), (.func (.func f_f) s_f c_f), (.slice p_xs L_xs.length q_xs), (u4 13), (u4 14), (u4 15), (u4 16), (u4 17), (u4 18)]) rfl rfl (does_move (u := (.slice p_xs L_xs.length q_xs)) (ev rfl)) rfl ?_
      refine q_is (l' := [(.slice p_xs L_xs.length q_xs), (.func (.func f_f) s_f c_f), Ud, Ud, (u4 4), (Iv (k : Int)), (.slice p_xs L_xs.length q_xs), (Iv (L_xs.length : Int)), (Iv (k : Int)), (Bo (icmp .lss (k : Int) (L_xs.length : Int))), (Iv (k : Int)), (.func (.func f_f) s_f c_f), (.slice p_xs L_xs.length q_xs), (Iv (k : Int)), (u4 14), (u4 15), (u4 16), (u4 17), (u4 18)]) rfl rfl (does_move (u := (Iv (k : Int))) (ev rfl)) rfl ?_
      obtain ⟨el1, hel1⟩ : ∃ e, L_xs[k]? = some e := ⟨_, List.getElem?_eq_getElem (by omega)⟩
      refine seqd rfl rfl (does_indexSl (R := RF) (i := (k : Int)) (xs := L_xs) (e := el1) Try.underlying75 Try.sizeOf24 (ev rfl) (ev rfl) (Sl.ext hv_xs RF.mono X8) (by omega) hel1) ?_; rintro _ _ ⟨b15, o16, _, rfl, hc18, ⟨r19, rfl, h20⟩, rfl⟩
      show wpList _ _ _ _ (fr [(.slice p_xs L_xs.length q_xs), (.func (.func f_f) s_f c_f), Ud, Ud, (u4 4), (Iv (k : Int)), (.slice p_xs L_xs.length q_xs), (Iv (L_xs.length : Int)), (Iv (k : Int)), (Bo (icmp .lss (k : Int) (L_xs.length : Int))), (Iv (k : Int)), (.func (.func f_f) s_f c_f), (.slice p_xs L_xs.length q_xs), (Iv (k : Int)), (Pt b15 o16), (u4 15), (u4 16), (u4 17), (u4 18)]) _
      refine q_is (l' := [(.slice p_xs L_xs.length q_xs), (.func (.func f_f) s_f c_f), Ud, Ud, (u4 4), (Iv (k : Int)), (.slice p_xs L_xs.length q_xs), (Iv (L_xs.length : Int)), (Iv (k : Int)), (Bo (icmp .lss (k : Int) (L_xs.length : Int))), (Iv (k : Int)), (.func (.func f_f) s_f c_f), (.slice p_xs L_xs.length q_xs), (Iv (k : Int)), (Pt b15 o16), (Fl r19), (u4 16), (u4 17), (u4 18)]) rfl rfl (does_load (u := (Fl r19)) (ev rfl) Try.isAgg24 (Cells.at hc18 0 rfl)) rfl ?_
      refine seqd rfl rfl (does_callf (args := #[(Fl r19)]) (ev rfl) hcal_f (evs rfl) (hg_f r19 _ X8)) ?_; rintro _ w22 ⟨E21, rfl⟩
      have X23 := Ext.gr X8 E21
      show wpList _ _ _ _ (fr [(.slice p_xs L_xs.length q_xs), (.func (.func f_f) s_f c_f), Ud, Ud, (u4 4), (Iv (k : Int)), (.slice p_xs L_xs.length q_xs), (Iv (L_xs.length : Int)), (Iv (k : Int)), (Bo (icmp .lss (k : Int) (L_xs.length : Int))), (Iv (k : Int)), (.func (.func f_f) s_f c_f), (.slice p_xs L_xs.length q_xs), (Iv (k : Int)), (Pt b15 o16), (Fl r19), (Bo (pr_f (cf .f32 r19))), (u4 17), (u4 18)]) _
      refine wpList_nil (hK14 _ _ ?_)
      refine wp_cond_split (t := pr_f (cf .f32 r19)) (ev rfl) (fun c24 => ?_) (fun c24 => ?_)
      · have c24' := c24
        refine wp_seq_k fun K25 hK25 => ?_
        refine wp_region_lit ?_
        refine q_is (l' := [(.slice p_xs L_xs.length q_xs), (.func (.func f_f) s_f c_f), Ud, Ud, (u4 4), (Iv (k : Int)), (.slice p_xs L_xs.length q_xs), (Iv (L_xs.length : Int)), (Iv (k : Int)), (Bo (icmp .lss (k : Int) (L_xs.length : Int))), (Iv (k : Int)), (.func (.func f_f) s_f c_f), (.slice p_xs L_xs.length q_xs), (Iv (k : Int)), (Pt b15 o16), (Fl r19), (Bo (pr_f (cf .f32 r19))), (Iv (k : Int)), (u4 18)]) rfl rfl (does_move (u := (Iv (k : Int))) (ev rfl)) rfl ?_
        refine q_is (l' := [(.slice p_xs L_xs.length q_xs), (.func (.func f_f) s_f c_f), Ud, Ud, (Iv (k : Int)), (Iv (k : Int)), (.slice p_xs L_xs.length q_xs), (Iv (L_xs.length : Int)), (Iv (k : Int)), (Bo (icmp .lss (k : Int) (L_xs.length : Int))), (Iv (k : Int)), (.func (.func f_f) s_f c_f), (.slice p_xs L_xs.length q_xs), (Iv (k : Int)), (Pt b15 o16), (Fl r19), (Bo (pr_f (cf .f32 r19))), (Iv (k : Int)), (u4 18)]) rfl rfl (does_assign (u := (Iv (k : Int))) (ev rfl)) rfl ?_
        refine wpList_nil (hK25 _ _ ?_)
        refine wp_ret ?_
        dsimp only [Exit.then, Exit.inBlock]
        refine ret_val (v := (Iv (k : Int))) (res_T rfl (slot rfl)) X23 ?_
        try simp only [hel1, h20] at c11 c24
        have x26 : (findI pr_f L_xs : Int) = (k : Int) := by first | exact findI_at hno (by assumption) (by simp_all) | exact findI_none hno (by omega)
        exact (by first | rfl | rw [x26])
      have c24' := c24
      refine wp_skip (hK12 _ _ ?_)
      refine wp_region_lit ?_
      refine q_is (l' := [(.slice p_xs L_xs.length q_xs), (.func (.func f_f) s_f c_f), Ud, Ud, (u4 4), (Iv (k : Int)), (.slice p_xs L_xs.length q_xs), (Iv (L_xs.length : Int)), (Iv (k : Int)), (Bo (icmp .lss (k : Int) (L_xs.length : Int))), (Iv (k : Int)), (.func (.func f_f) s_f c_f), (.slice p_xs L_xs.length q_xs), (Iv (k : Int)), (Pt b15 o16), (Fl r19), (Bo (pr_f (cf .f32 r19))), (u4 17), (Iv ((k : Int) + 1))]) rfl rfl (does_iarith (p := (k : Int)) (q := 1) (r := (k : Int) + 1) (ev rfl) (ev rfl) (.inl ⟨rfl, (in_i64 (by omega) (by omega)).symm⟩)) rfl ?_
      refine q_is (l' := [(.slice p_xs L_xs.length q_xs), (.func (.func f_f) s_f c_f), Ud, Ud, (u4 4), (Iv (k : Int)), (.slice p_xs L_xs.length q_xs), (Iv (L_xs.length : Int)), (Iv ((k : Int) + 1)), (Bo (icmp .lss (k : Int) (L_xs.length : Int))), (Iv (k : Int)), (.func (.func f_f) s_f c_f), (.slice p_xs L_xs.length q_xs), (Iv (k : Int)), (Pt b15 o16), (Fl r19), (Bo (pr_f (cf .f32 r19))), (u4 17), (Iv ((k : Int) + 1))]) rfl rfl (does_move (u := (Iv ((k : Int) + 1))) (ev rfl)) rfl ?_
      refine wpList_nil ?_
      refine ⟨k + 1, ⟨fun t => (([(.slice p_xs L_xs.length q_xs), (.func (.func f_f) s_f c_f), Ud, Ud, (u4 4), (Iv (k : Int)), (.slice p_xs L_xs.length q_xs), (Iv (L_xs.length : Int)), (Iv ((k : Int) + 1)), (Bo (icmp .lss (k : Int) (L_xs.length : Int))), (Iv (k : Int)), (.func (.func f_f) s_f c_f), (.slice p_xs L_xs.length q_xs), (Iv (k : Int)), (Pt b15 o16), (Fl r19), (Bo (pr_f (cf .f32 r19))), (u4 17), (Iv ((k : Int) + 1))] : List Value)[t]?).getD undef, ?_, (Ext.gr E6 E21), ?_⟩, ?_⟩
      · first | rfl | (simp only [Nat.cast_add, Nat.cast_one, Int.natCast_add, Int.natCast_one]; rfl)
      · exact ⟨by omega, NoneTo.step hno (by assumption) (by simp_all)⟩
      · omega
    have c11' := c11
    (try simp only [icmp, Bool.and_eq_true, Bool.or_eq_true, Bool.and_eq_false_iff, Bool.or_eq_false_iff, Bool.not_eq_true', Bool.not_eq_false', decide_eq_true_eq, decide_eq_false_iff_not, beq_iff_eq, bne_iff_ne, beq_eq_false_iff_ne, bne_eq_false_iff_eq] at c11')
    refine wp_exit ?_
    refine hK2 _ _ ?_
    refine wp_seq_k fun K27 hK27 => ?_
    refine wp_region_lit ?_
    refine q_is (l' := [(.slice p_xs L_xs.length q_xs), (.func (.func f_f) s_f c_f), Ud, Ud, (Iv (-1)), (u4 5), (.slice p_xs L_xs.length q_xs), (Iv (L_xs.length : Int)), (Iv (k : Int)), (Bo (icmp .lss (k : Int) (L_xs.length : Int))), (u4 10), (u4 11), (u4 12), (u4 13), (u4 14), (u4 15), (u4 16), (u4 17), (u4 18)]) rfl rfl (does_assign (u := (Iv (-1))) (ev rfl)) rfl ?_
    refine wpList_nil (hK27 _ _ ?_)
    refine wp_ret ?_
    refine ret_val (v := (Iv (-1))) (res_T rfl (slot rfl)) X8 ?_
    have x28 : (findI pr_f L_xs : Int) = (-1) := by first | exact findI_at hno (by assumption) (by simp_all) | exact findI_none hno (by omega)
    exact (by first | rfl | rw [x28])

/- slices.ContainsFunc[[]float32,float32] -/
theorem c_slices_ContainsFunc_float32_float32 (xs : Value) (L_xs : List Nat) (f : Value) (pr_f : Nat → Bool) (w : World) (hv_xs : Sl RF 1 w xs L_xs) (hv_f : TellsF Try.prog f w pr_f) : Gives Try.prog 108 #[xs, f] w (fun v w' => v = (Bo (L_xs.any pr_f))) := by
  have hlen_xs := Sl.len hv_xs; obtain ⟨p_xs, q_xs, rfl⟩ := Sl.shape hv_xs
  obtain ⟨f_f, s_f, c_f, rfl, hcal_f, hg_f⟩ := hv_f
  refine enter [(.slice p_xs L_xs.length q_xs), (.func (.func f_f) s_f c_f), Ud, Ud, Ud, Ud, Ud, Ud, Ud] Try.func108 rfl Try.ntmps108 rfl ?_
  refine wp_seq_k fun K1 hK1 => ?_
  refine wp_region_lit ?_
  refine q_is (l' := [(.slice p_xs L_xs.length q_xs), (.func (.func f_f) s_f c_f), Ud, Ud, (Bo false), Ud, Ud, Ud, Ud]) rfl rfl (does_assign (u := (Bo false)) (ev rfl)) rfl ?_
  refine wpList_nil (hK1 _ _ ?_)
  refine wp_seq_k fun K2 hK2 => ?_
  refine wp_region_lit ?_
  refine q_is (l' := [(.slice p_xs L_xs.length q_xs), (.func (.func f_f) s_f c_f), Ud, Ud, (Bo false), (.slice p_xs L_xs.length q_xs), Ud, Ud, Ud]) rfl rfl (does_move (u := (.slice p_xs L_xs.length q_xs)) (ev rfl)) rfl ?_
  refine q_is (l' := [(.slice p_xs L_xs.length q_xs), (.func (.func f_f) s_f c_f), Ud, Ud, (Bo false), (.slice p_xs L_xs.length q_xs), (.func (.func f_f) s_f c_f), Ud, Ud]) rfl rfl (does_move (u := (.func (.func f_f) s_f c_f)) (ev rfl)) rfl ?_
  refine seqd rfl rfl (does_call (args := #[(.slice p_xs L_xs.length q_xs), (.func (.func f_f) s_f c_f)]) cal115 (evs rfl) (c_slices_IndexFunc_float32_float32 (.slice p_xs L_xs.length q_xs) L_xs (.func (.func f_f) s_f c_f) pr_f _ hv_xs ⟨_, _, _, rfl, hcal_f, fun r u hu' => hg_f r u (Ext.gr (Ext.refl w) hu')⟩)) ?_; rintro _ w4 ⟨E3, rfl⟩
  have X5 := Ext.gr (Ext.refl w) E3
  show wpList _ _ _ _ (fr [(.slice p_xs L_xs.length q_xs), (.func (.func f_f) s_f c_f), Ud, Ud, (Bo false), (.slice p_xs L_xs.length q_xs), (.func (.func f_f) s_f c_f), (Iv (findI pr_f L_xs)), Ud]) _
  refine q_is (l' := [(.slice p_xs L_xs.length q_xs), (.func (.func f_f) s_f c_f), Ud, Ud, (Bo false), (.slice p_xs L_xs.length q_xs), (.func (.func f_f) s_f c_f), (Iv (findI pr_f L_xs)), (Bo (icmp .geq (findI pr_f L_xs) 0))]) rfl rfl (does_icmp (p := findI pr_f L_xs) (q := 0) (.inr (.inr (.inr (.inr (.inr rfl))))) (ev rfl) (ev rfl)) rfl ?_
  refine q_is (l' := [(.slice p_xs L_xs.length q_xs), (.func (.func f_f) s_f c_f), Ud, Ud, (Bo (icmp .geq (findI pr_f L_xs) 0)), (.slice p_xs L_xs.length q_xs), (.func (.func f_f) s_f c_f), (Iv (findI pr_f L_xs)), (Bo (icmp .geq (findI pr_f L_xs) 0))]) rfl rfl (does_assign (u := (Bo (icmp .geq (findI pr_f L_xs) 0))) (ev rfl)) rfl ?_
  refine wpList_nil (hK2 _ _ ?_)
  refine wp_ret ?_
  refine ret_val (v := (Bo (icmp .geq (findI pr_f L_xs) 0))) (res_T rfl (slot rfl)) X5 ?_
  have x6 : (L_xs.any pr_f) = (icmp .geq (findI pr_f L_xs) 0) := by first | with_reducible rfl | (simp only [findI_any]; done) | (simp [findI_any]; done) | rfl
  exact (by first | rfl | rw [x6])

/- impl.IsFinite -/
theorem c_impl_IsFinite (x : Nat) (w : World) : Gives Try.prog 104 #[(Fl x)] w (fun v w' => v = (Bo (finF (cf .f32 x)))) := by
  refine enter [(Fl x), Ud, Ud, Ud, Ud, Ud, Ud] Try.func104 rfl Try.ntmps104 rfl ?_
  refine wp_seq_k fun K1 hK1 => ?_
  refine wp_region_lit ?_
  refine q_is (l' := [(Fl x), Ud, (Bo false), Ud, Ud, Ud, Ud]) rfl rfl (does_assign (u := (Bo false)) (ev rfl)) rfl ?_
  refine wpList_nil (hK1 _ _ ?_)
  refine wp_seq_k fun K2 hK2 => ?_
  refine wp_region_lit ?_
  refine q_is (l' := [(Fl x), Ud, (Bo false), (Fl x), Ud, Ud, Ud]) rfl rfl (does_move (u := (Fl x)) (ev rfl)) rfl ?_
  refine q_is (l' := [(Fl x), Ud, (Bo false), (Fl x), (Fl x), Ud, Ud]) rfl rfl (does_move (u := (Fl x)) (ev rfl)) rfl ?_
  refine seqd rfl rfl (does_float (.inr (.inl rfl)) (ev rfl) (ev rfl)) ?_; rintro _ w6 ⟨r3, rfl, h4, E5⟩
  have X7 := Ext.gr (Ext.refl w) E5
  show wpList _ _ _ _ (fr [(Fl x), Ud, (Bo false), (Fl x), (Fl x), (Fl r3), Ud]) _
  refine q_is (l' := [(Fl x), Ud, (Bo false), (Fl x), (Fl x), (Fl r3), (Bo (fcmp .eql (ford .f32 (cf .f32 r3) (cf .f32 0))))]) rfl rfl (does_fcmp (.inl rfl) (ev rfl) (ev rfl)) rfl ?_
  refine q_is (l' := [(Fl x), Ud, (Bo (fcmp .eql (ford .f32 (cf .f32 r3) (cf .f32 0)))), (Fl x), (Fl x), (Fl r3), (Bo (fcmp .eql (ford .f32 (cf .f32 r3) (cf .f32 0))))]) rfl rfl (does_assign (u := (Bo (fcmp .eql (ford .f32 (cf .f32 r3) (cf .f32 0))))) (ev rfl)) rfl ?_
  refine wpList_nil (hK2 _ _ ?_)
  refine wp_ret ?_
  refine ret_val (v := (Bo (fcmp .eql (ford .f32 (cf .f32 r3) (cf .f32 0))))) (res_T rfl (slot rfl)) X7 ?_
  have x8 : (finF (cf .f32 x)) = (fcmp .eql (ford .f32 (cf .f32 r3) (cf .f32 0))) := by first | with_reducible rfl | (simp only [finF, h4]; done) | (simp [finF, h4]; done) | rfl
  exact (by first | rfl | rw [x8])

/- impl.finite$1 -/
theorem c_impl_finite_1 (x : Nat) (w : World) : Gives Try.prog 110 #[(Fl x)] w (fun v w' => v = (Bo (!finF (cf .f32 x)))) := by
  refine enter [(Fl x), Ud, Ud, Ud, Ud, Ud] Try.func110 rfl Try.ntmps110 rfl ?_
  refine wp_seq_k fun K1 hK1 => ?_
  refine wp_region_lit ?_
  refine q_is (l' := [(Fl x), Ud, (Bo false), Ud, Ud, Ud]) rfl rfl (does_assign (u := (Bo false)) (ev rfl)) rfl ?_
  refine wpList_nil (hK1 _ _ ?_)
  refine wp_seq_k fun K2 hK2 => ?_
  refine wp_region_lit ?_
  refine q_is (l' := [(Fl x), Ud, (Bo false), (Fl x), Ud, Ud]) rfl rfl (does_move (u := (Fl x)) (ev rfl)) rfl ?_
  refine seqd rfl rfl (does_call (args := #[(Fl x)]) cal104 (evs rfl) (c_impl_IsFinite x _)) ?_; rintro _ w4 ⟨E3, rfl⟩
  have X5 := Ext.gr (Ext.refl w) E3
  show wpList _ _ _ _ (fr [(Fl x), Ud, (Bo false), (Fl x), (Bo (finF (cf .f32 x))), Ud]) _
  refine q_is (l' := [(Fl x), Ud, (Bo false), (Fl x), (Bo (finF (cf .f32 x))), (Bo (!(finF (cf .f32 x))))]) rfl rfl (does_not (ev rfl)) rfl ?_
  refine q_is (l' := [(Fl x), Ud, (Bo (!(finF (cf .f32 x)))), (Fl x), (Bo (finF (cf .f32 x))), (Bo (!(finF (cf .f32 x))))]) rfl rfl (does_assign (u := (Bo (!(finF (cf .f32 x))))) (ev rfl)) rfl ?_
  refine wpList_nil (hK2 _ _ ?_)
  refine wp_ret ?_
  refine ret_val (v := (Bo (!(finF (cf .f32 x))))) (res_T rfl (slot rfl)) X5 ?_
  have x6 : (!finF (cf .f32 x)) = (!(finF (cf .f32 x))) := by first | with_reducible rfl | (simp only []; done) | (simp []; done) | rfl
  exact (by first | rfl | rw [x6])

/- impl.finite -/
theorem c_impl_finite (xs : Value) (L_xs : List Nat) (w : World) (hv_xs : Sl RF 1 w xs L_xs) : Gives Try.prog 96 #[xs] w (fun v w' => v = (Bo (!L_xs.any (fun x => !finF x)))) := by
  have hlen_xs := Sl.len hv_xs; obtain ⟨p_xs, q_xs, rfl⟩ := Sl.shape hv_xs
  refine enter [(.slice p_xs L_xs.length q_xs), Ud, Ud, Ud, Ud, Ud] Try.func96 rfl Try.ntmps96 rfl ?_
  refine wp_seq_k fun K1 hK1 => ?_
  refine wp_region_lit ?_
  refine q_is (l' := [(.slice p_xs L_xs.length q_xs), Ud, (Bo false), Ud, Ud, Ud]) rfl rfl (does_assign (u := (Bo false)) (ev rfl)) rfl ?_
  refine wpList_nil (hK1 _ _ ?_)
  refine wp_seq_k fun K2 hK2 => ?_
  refine wp_region_lit ?_
  refine q_is (l' := [(.slice p_xs L_xs.length q_xs), Ud, (Bo false), (.slice p_xs L_xs.length q_xs), Ud, Ud]) rfl rfl (does_move (u := (.slice p_xs L_xs.length q_xs)) (ev rfl)) rfl ?_
  refine seqd rfl rfl (does_call (args := #[(.slice p_xs L_xs.length q_xs), (.func (.func 110) #[] #[])]) cal108 (evs rfl) (c_slices_ContainsFunc_float32_float32 (.slice p_xs L_xs.length q_xs) L_xs (.func (.func 110) #[] #[]) (fun x => !finF x) _ hv_xs ⟨110, #[], #[], rfl, cal110, fun r u hu' => by simpa using (c_impl_finite_1 r u)⟩)) ?_; rintro _ w4 ⟨E3, rfl⟩
  have X5 := Ext.gr (Ext.refl w) E3
  show wpList _ _ _ _ (fr [(.slice p_xs L_xs.length q_xs), Ud, (Bo false), (.slice p_xs L_xs.length q_xs), (Bo (L_xs.any (fun x => !finF x))), Ud]) _
  refine q_is (l' := [(.slice p_xs L_xs.length q_xs), Ud, (Bo false), (.slice p_xs L_xs.length q_xs), (Bo (L_xs.any (fun x => !finF x))), (Bo (!(L_xs.any (fun x => !finF x))))]) rfl rfl (does_not (ev rfl)) rfl ?_
  refine q_is (l' := [(.slice p_xs L_xs.length q_xs), Ud, (Bo (!(L_xs.any (fun x => !finF x)))), (.slice p_xs L_xs.length q_xs), (Bo (L_xs.any (fun x => !finF x))), (Bo (!(L_xs.any (fun x => !finF x))))]) rfl rfl (does_assign (u := (Bo (!(L_xs.any (fun x => !finF x))))) (ev rfl)) rfl ?_
  refine wpList_nil (hK2 _ _ ?_)
  refine wp_ret ?_
  refine ret_val (v := (Bo (!(L_xs.any (fun x => !finF x))))) (res_T rfl (slot rfl)) X5 ?_
  have x6 : (!L_xs.any (fun x => !finF x)) = (!(L_xs.any (fun x => !finF x))) := by first | with_reducible rfl | (simp only []; done) | (simp []; done) | rfl
  exact (by first | rfl | rw [x6])

/- impl.finiteVector -/
theorem c_impl_finiteVector (v : List Value) (A_v : V3) (w : World) (hv_v : RV3 w A_v v) : Gives Try.prog 57 #[(.agg v.toArray)] w (fun v w' => v = (Bo (finV A_v))) := by
  obtain ⟨r1, r3, r5, rfl, h2, h4, h6⟩ := hv_v
  refine enter [(.agg #[(Fl r1), (Fl r3), (Fl r5)]), Ud, Ud, Ud, Ud, Ud, Ud, Ud, Ud, Ud, Ud] Try.func57 rfl Try.ntmps57 rfl ?_
  refine wp_seq_k fun K7 hK7 => ?_
  refine wp_region_lit ?_
  refine seqd rfl rfl (does_box (u := (.agg #[(Fl r1), (Fl r3), (Fl r5)])) (ev rfl)) ?_; rintro _ w12 ⟨b8, rfl, hb9, hB10, E11⟩
  have g13 : w.heap.size ≤ b8 := Nat.le_trans (Below.size (Ext.refl w)) hb9
  change Blk _ _ [(Fl r1), (Fl r3), (Fl r5)] at hB10
  have X14 := Ext.gr (Ext.refl w) E11
  show wpList _ _ _ _ (fr [(.agg #[(Fl r1), (Fl r3), (Fl r5)]), (Pt b8 0), Ud, Ud, Ud, Ud, Ud, Ud, Ud, Ud, Ud]) _
  refine q_is (l' := [(.agg #[(Fl r1), (Fl r3), (Fl r5)]), (Pt b8 0), (Bo false), Ud, Ud, Ud, Ud, Ud, Ud, Ud, Ud]) rfl rfl (does_assign (u := (Bo false)) (ev rfl)) rfl ?_
  refine wpList_nil (hK7 _ _ ?_)
  refine wp_seq_k fun K15 hK15 => ?_
  refine wp_region_lit ?_
  refine q_is (l' := [(.agg #[(Fl r1), (Fl r3), (Fl r5)]), (Pt b8 0), (Bo false), (Pt b8 0), Ud, Ud, Ud, Ud, Ud, Ud, Ud]) rfl rfl (does_fieldAddr (ev rfl) fa26_0) rfl ?_
  refine q_is (l' := [(.agg #[(Fl r1), (Fl r3), (Fl r5)]), (Pt b8 0), (Bo false), (Pt b8 0), (Fl r1), Ud, Ud, Ud, Ud, Ud, Ud]) rfl rfl (does_load (u := (Fl r1)) (ev rfl) Try.isAgg24 (Cells.at (Blk.cells hB10) 0 rfl)) rfl ?_
  refine q_is (l' := [(.agg #[(Fl r1), (Fl r3), (Fl r5)]), (Pt b8 0), (Bo false), (Pt b8 0), (Fl r1), (Pt b8 1), Ud, Ud, Ud, Ud, Ud]) rfl rfl (does_fieldAddr (ev rfl) fa26_1) rfl ?_
  refine q_is (l' := [(.agg #[(Fl r1), (Fl r3), (Fl r5)]), (Pt b8 0), (Bo false), (Pt b8 0), (Fl r1), (Pt b8 1), (Fl r3), Ud, Ud, Ud, Ud]) rfl rfl (does_load (u := (Fl r3)) (ev rfl) Try.isAgg24 (Cells.at (Blk.cells hB10) 1 rfl)) rfl ?_
  refine q_is (l' := [(.agg #[(Fl r1), (Fl r3), (Fl r5)]), (Pt b8 0), (Bo false), (Pt b8 0), (Fl r1), (Pt b8 1), (Fl r3), (Pt b8 2), Ud, Ud, Ud]) rfl rfl (does_fieldAddr (ev rfl) fa26_2) rfl ?_
  refine q_is (l' := [(.agg #[(Fl r1), (Fl r3), (Fl r5)]), (Pt b8 0), (Bo false), (Pt b8 0), (Fl r1), (Pt b8 1), (Fl r3), (Pt b8 2), (Fl r5), Ud, Ud]) rfl rfl (does_load (u := (Fl r5)) (ev rfl) Try.isAgg24 (Cells.at (Blk.cells hB10) 2 rfl)) rfl ?_
  refine seqd rfl rfl (does_buildSlice (e := 24) (parts' := [(0, (Fl r1)), (1, (Fl r3)), (2, (Fl r5))]) (cells := [(Fl r1), (Fl r3), (Fl r5)]) (evp rfl) (fun _ => by kernel_rfl)) ?_; rintro _ w20 ⟨b16, rfl, hb17, hB18, E19⟩
  have n21 : b8 < b16 := Nat.lt_of_lt_of_le (Blk.lt hB10) hb17
  have g22 : w.heap.size ≤ b16 := Nat.le_trans (Below.size X14) hb17
  have X23 := Ext.gr X14 E19
  show wpList _ _ _ _ (fr [(.agg #[(Fl r1), (Fl r3), (Fl r5)]), (Pt b8 0), (Bo false), (Pt b8 0), (Fl r1), (Pt b8 1), (Fl r3), (Pt b8 2), (Fl r5), (.slice (some ⟨b16, 0, none⟩) 3 3), Ud]) _
  refine seqd rfl rfl (does_call (args := #[(.slice (some ⟨b16, 0, none⟩) 3 3)]) cal96 (evs rfl) (c_impl_finite (.slice (some ⟨b16, 0, none⟩) 3 3) [(cf .f32 r1), (cf .f32 r3), (cf .f32 r5)] _ (Sl_lit3 hB18 ⟨_, rfl, rfl⟩ ⟨_, rfl, rfl⟩ ⟨_, rfl, rfl⟩))) ?_; rintro _ w25 ⟨E24, rfl⟩
  have X26 := Ext.gr X23 E24
  show wpList _ _ _ _ (fr [(.agg #[(Fl r1), (Fl r3), (Fl r5)]), (Pt b8 0), (Bo false), (Pt b8 0), (Fl r1), (Pt b8 1), (Fl r3), (Pt b8 2), (Fl r5), (.slice (some ⟨b16, 0, none⟩) 3 3), (Bo (!([(cf .f32 r1), (cf .f32 r3), (cf .f32 r5)]).any (fun x => !finF x)))]) _
  refine q_is (l' := [(.agg #[(Fl r1), (Fl r3), (Fl r5)]), (Pt b8 0), (Bo (!([(cf .f32 r1), (cf .f32 r3), (cf .f32 r5)]).any (fun x => !finF x))), (Pt b8 0), (Fl r1), (Pt b8 1), (Fl r3), (Pt b8 2), (Fl r5), (.slice (some ⟨b16, 0, none⟩) 3 3), (Bo (!([(cf .f32 r1), (cf .f32 r3), (cf .f32 r5)]).any (fun x => !finF x)))]) rfl rfl (does_assign (u := (Bo (!([(cf .f32 r1), (cf .f32 r3), (cf .f32 r5)]).any (fun x => !finF x)))) (ev rfl)) rfl ?_
  refine wpList_nil (hK15 _ _ ?_)
  refine wp_ret ?_
  refine ret_val (v := (Bo (!([(cf .f32 r1), (cf .f32 r3), (cf .f32 r5)]).any (fun x => !finF x)))) (res_T rfl (slot rfl)) X26 ?_
  have x27 : (finV A_v) = (!([(cf .f32 r1), (cf .f32 r3), (cf .f32 r5)]).any (fun x => !finF x)) := by first | with_reducible rfl | (simp only [finV, any3_finF, h2, h4, h6]; done) | (simp [finV, any3_finF, h2, h4, h6]; done) | rfl
  exact (by first | rfl | rw [x27])

/- impl.each -/
theorem c_impl_each (a : List Value) (A_a : V3) (b : List Value) (A_b : V3) (f : Value) (pr_f : Nat → Nat → Nat) (w : World) (hv_a : RV3 w A_a a) (hv_b : RV3 w A_b b) (hv_f : NumF2 Try.prog f w pr_f) : Gives Try.prog 58 #[(.agg a.toArray), (.agg b.toArray), f] w (fun v w' => ∃ cs_1 : List Value, v = (.agg cs_1.toArray) ∧ RV3 w (v2 pr_f A_a A_b) cs_1) := by
  obtain ⟨r1, r3, r5, rfl, h2, h4, h6⟩ := hv_a
  obtain ⟨r7, r9, r11, rfl, h8, h10, h12⟩ := hv_b
  obtain ⟨f_f, s_f, c_f, rfl, hcal_f, hg_f⟩ := hv_f
  refine enter [(.agg #[(Fl r1), (Fl r3), (Fl r5)]), (.agg #[(Fl r7), (Fl r9), (Fl r11)]), (.func (.func f_f) s_f c_f), Ud, Ud, Ud, Ud, Ud, Ud, Ud, Ud, Ud, Ud, Ud, Ud, Ud, Ud, Ud, Ud, Ud, Ud, Ud, Ud, Ud, Ud, Ud] Try.func58 rfl Try.ntmps58 rfl ?_
  refine wp_seq_k fun K13 hK13 => ?_
  refine wp_region_lit ?_
  refine seqd rfl rfl (does_box (u := (.agg #[(Fl r1), (Fl r3), (Fl r5)])) (ev rfl)) ?_; rintro _ w18 ⟨b14, rfl, hb15, hB16, E17⟩
  have g19 : w.heap.size ≤ b14 := Nat.le_trans (Below.size (Ext.refl w)) hb15
  change Blk _ _ [(Fl r1), (Fl r3), (Fl r5)] at hB16
  have X20 := Ext.gr (Ext.refl w) E17
  show wpList _ _ _ _ (fr [(.agg #[(Fl r1), (Fl r3), (Fl r5)]), (.agg #[(Fl r7), (Fl r9), (Fl r11)]), (.func (.func f_f) s_f c_f), (Pt b14 0), Ud, Ud, Ud, Ud, Ud, Ud, Ud, Ud, Ud, Ud, Ud, Ud, Ud, Ud, Ud, Ud, Ud, Ud, Ud, Ud, Ud, Ud]) _
  refine seqd rfl rfl (does_box (u := (.agg #[(Fl r7), (Fl r9), (Fl r11)])) (ev rfl)) ?_; rintro _ w25 ⟨b21, rfl, hb22, hB23, E24⟩
  have n26 : b14 < b21 := Nat.lt_of_lt_of_le (Blk.lt hB16) hb22
  have g27 : w.heap.size ≤ b21 := Nat.le_trans (Below.size X20) hb22
  change Blk _ _ [(Fl r7), (Fl r9), (Fl r11)] at hB23
  have X28 := Ext.gr X20 E24
  show wpList _ _ _ _ (fr [(.agg #[(Fl r1), (Fl r3), (Fl r5)]), (.agg #[(Fl r7), (Fl r9), (Fl r11)]), (.func (.func f_f) s_f c_f), (Pt b14 0), (Pt b21 0), Ud, Ud, Ud, Ud, Ud, Ud, Ud, Ud, Ud, Ud, Ud, Ud, Ud, Ud, Ud, Ud, Ud, Ud, Ud, Ud, Ud]) _
  refine seqd rfl rfl (does_alloc z26) ?_; rintro _ w33 ⟨b29, rfl, hb30, hB31, E32⟩
  have n34 : b14 < b29 := Nat.lt_of_lt_of_le (Blk.lt (hB16.ext E24)) hb30
  have n35 : b21 < b29 := Nat.lt_of_lt_of_le (Blk.lt hB23) hb30
  have g36 : w.heap.size ≤ b29 := Nat.le_trans (Below.size X28) hb30
  change Blk _ _ [(Fl 0), (Fl 0), (Fl 0)] at hB31
  have X37 := Ext.gr X28 E32
  show wpList _ _ _ _ (fr [(.agg #[(Fl r1), (Fl r3), (Fl r5)]), (.agg #[(Fl r7), (Fl r9), (Fl r11)]), (.func (.func f_f) s_f c_f), (Pt b14 0), (Pt b21 0), Ud, (Pt b29 0), Ud, Ud, Ud, Ud, Ud, Ud, Ud, Ud, Ud, Ud, Ud, Ud, Ud, Ud, Ud, Ud, Ud, Ud, Ud]) _
  refine wpList_nil (hK13 _ _ ?_)
  refine wp_seq_k fun K38 hK38 => ?_
  refine region_draw (
    [Fact.pure [] (fun v => v = (.func (.func f_f) s_f c_f)),
    Fact.pure [] (fun v => v = (Pt b14 0)),
    Fact.pure [8] (fun v => v = (Fl r1)),
    Fact.pure [] (fun v => v = (Pt b21 0)),
    Fact.pure [10] (fun v => v = (Fl r7)),
    Fact.pure [9, 11, 7] (fun v => ∃ r_1 : Nat, v = (Fl r_1) ∧ cf .f32 r_1 = pr_f (cf .f32 r1) (cf .f32 r7)),
    Fact.pure [] (fun v => v = (.func (.func f_f) s_f c_f)),
    Fact.pure [] (fun v => v = (Pt b14 1)),
    Fact.pure [14] (fun v => v = (Fl r3)),
    Fact.pure [] (fun v => v = (Pt b21 1)),
    Fact.pure [16] (fun v => v = (Fl r9)),
    Fact.pure [15, 17, 13] (fun v => ∃ r_1 : Nat, v = (Fl r_1) ∧ cf .f32 r_1 = pr_f (cf .f32 r3) (cf .f32 r9)),
    Fact.pure [] (fun v => v = (.func (.func f_f) s_f c_f)),
    Fact.pure [] (fun v => v = (Pt b14 2)),
    Fact.pure [20] (fun v => v = (Fl r5)),
    Fact.pure [] (fun v => v = (Pt b21 2)),
    Fact.pure [22] (fun v => v = (Fl r11)),
    Fact.pure [21, 23, 19] (fun v => ∃ r_1 : Nat, v = (Fl r_1) ∧ cf .f32 r_1 = pr_f (cf .f32 r5) (cf .f32 r11)),
    Fact.pure [12, 18, 24] (fun v => ∃ r_1 : Nat, ∃ r_2 : Nat, ∃ r_3 : Nat, v = (.agg #[(Fl r_1), (Fl r_2), (Fl r_3)]) ∧ cf .f32 r_1 = pr_f (cf .f32 r1) (cf .f32 r7) ∧ cf .f32 r_2 = pr_f (cf .f32 r3) (cf .f32 r9) ∧ cf .f32 r_3 = pr_f (cf .f32 r5) (cf .f32 r11))]) mixed (by kernel_rfl) (by intro _ _ d _ _ h; cases d <;> exact h) ?_
  obtain ⟨w39, hw41⟩ : ∃ w', w' = World.drew w33 := ⟨_, rfl⟩; rw [← hw41]; have E40 : Ext w33 w39 := by rw [hw41]; exact Ext.draw _
  clear hw41
  have X42 := Ext.gr X37 E40
  refine RW_d (fun v43 => [(.agg #[(Fl r1), (Fl r3), (Fl r5)]), (.agg #[(Fl r7), (Fl r9), (Fl r11)]), (.func (.func f_f) s_f c_f), (Pt b14 0), (Pt b21 0), Ud, (Pt b29 0), v43, Ud, Ud, Ud, Ud, Ud, Ud, Ud, Ud, Ud, Ud, Ud, Ud, Ud, Ud, Ud, Ud, Ud, Ud]) rfl (fun _ => rfl) (fun u hu hF => ?_) (fun v43 => ?_)
  · clear hF
    refine doesG_un rfl ?_
    refine (does_move (u := (.func (.func f_f) s_f c_f)) (ev rfl)).mono ?_; rintro _ _ ⟨rfl, rfl⟩
    exact ⟨rfl, Ext.refl _⟩
  refine RW_d (fun v44 => [(.agg #[(Fl r1), (Fl r3), (Fl r5)]), (.agg #[(Fl r7), (Fl r9), (Fl r11)]), (.func (.func f_f) s_f c_f), (Pt b14 0), (Pt b21 0), Ud, (Pt b29 0), v43, v44, Ud, Ud, Ud, Ud, Ud, Ud, Ud, Ud, Ud, Ud, Ud, Ud, Ud, Ud, Ud, Ud, Ud]) rfl (fun _ => rfl) (fun u hu hF => ?_) (fun v44 => ?_)
  · clear hF
    refine doesG_un rfl ?_
    refine (does_fieldAddr (ev rfl) fa26_0).mono ?_; rintro _ _ ⟨rfl, rfl⟩
    exact ⟨rfl, Ext.refl _⟩
  refine RW_d (fun v45 => [(.agg #[(Fl r1), (Fl r3), (Fl r5)]), (.agg #[(Fl r7), (Fl r9), (Fl r11)]), (.func (.func f_f) s_f c_f), (Pt b14 0), (Pt b21 0), Ud, (Pt b29 0), v43, v44, v45, Ud, Ud, Ud, Ud, Ud, Ud, Ud, Ud, Ud, Ud, Ud, Ud, Ud, Ud, Ud, Ud]) rfl (fun _ => rfl) (fun u hu hF => ?_) (fun v45 => ?_)
  · have h8_ : v44 = (Pt b14 0) := hF.1
    clear hF
    refine doesG_un rfl ?_
    obtain rfl := h8_
    refine (does_load (u := (Fl r1)) (ev rfl) Try.isAgg24 (Cells.at (Blk.cells ((((hB16.ext E24).ext E32).ext E40).ext hu)) 0 rfl)).mono ?_; rintro _ _ ⟨rfl, rfl⟩
    exact ⟨rfl, Ext.refl _⟩
  refine RW_d (fun v46 => [(.agg #[(Fl r1), (Fl r3), (Fl r5)]), (.agg #[(Fl r7), (Fl r9), (Fl r11)]), (.func (.func f_f) s_f c_f), (Pt b14 0), (Pt b21 0), Ud, (Pt b29 0), v43, v44, v45, v46, Ud, Ud, Ud, Ud, Ud, Ud, Ud, Ud, Ud, Ud, Ud, Ud, Ud, Ud, Ud]) rfl (fun _ => rfl) (fun u hu hF => ?_) (fun v46 => ?_)
  · clear hF
    refine doesG_un rfl ?_
    refine (does_fieldAddr (ev rfl) fa26_0).mono ?_; rintro _ _ ⟨rfl, rfl⟩
    exact ⟨rfl, Ext.refl _⟩
  refine RW_d (fun v47 => [(.agg #[(Fl r1), (Fl r3), (Fl r5)]), (.agg #[(Fl r7), (Fl r9), (Fl r11)]), (.func (.func f_f) s_f c_f), (Pt b14 0), (Pt b21 0), Ud, (Pt b29 0), v43, v44, v45, v46, v47, Ud, Ud, Ud, Ud, Ud, Ud, Ud, Ud, Ud, Ud, Ud, Ud, Ud, Ud]) rfl (fun _ => rfl) (fun u hu hF => ?_) (fun v47 => ?_)
  · have h10_ : v46 = (Pt b21 0) := hF.1
    clear hF
    refine doesG_un rfl ?_
    obtain rfl := h10_
    refine (does_load (u := (Fl r7)) (ev rfl) Try.isAgg24 (Cells.at (Blk.cells (((hB23.ext E32).ext E40).ext hu)) 0 rfl)).mono ?_; rintro _ _ ⟨rfl, rfl⟩
    exact ⟨rfl, Ext.refl _⟩
  refine RW_d (fun v48 => [(.agg #[(Fl r1), (Fl r3), (Fl r5)]), (.agg #[(Fl r7), (Fl r9), (Fl r11)]), (.func (.func f_f) s_f c_f), (Pt b14 0), (Pt b21 0), Ud, (Pt b29 0), v43, v44, v45, v46, v47, v48, Ud, Ud, Ud, Ud, Ud, Ud, Ud, Ud, Ud, Ud, Ud, Ud, Ud]) rfl (fun _ => rfl) (fun u hu hF => ?_) (fun v48 => ?_)
  · have h9_ : v45 = (Fl r1) := hF.1
    have h11_ : v47 = (Fl r7) := hF.2.1
    have h7_ : v43 = (.func (.func f_f) s_f c_f) := hF.2.2.1
    clear hF
    refine doesG_un rfl ?_
    obtain rfl := h9_
    obtain rfl := h11_
    obtain rfl := h7_
    refine (does_callf (args := #[(Fl r1), (Fl r7)]) (ev rfl) hcal_f (evs rfl) (hg_f r1 r7 _ (Ext.gr (Ext.gr X37 E40) hu))).mono ?_; rintro v u' ⟨hx, ⟨rn1, hv, k0⟩⟩
    exact ⟨⟨rn1, hv, (by simp only [k0])⟩, hx⟩
  refine RW_d (fun v49 => [(.agg #[(Fl r1), (Fl r3), (Fl r5)]), (.agg #[(Fl r7), (Fl r9), (Fl r11)]), (.func (.func f_f) s_f c_f), (Pt b14 0), (Pt b21 0), Ud, (Pt b29 0), v43, v44, v45, v46, v47, v48, v49, Ud, Ud, Ud, Ud, Ud, Ud, Ud, Ud, Ud, Ud, Ud, Ud]) rfl (fun _ => rfl) (fun u hu hF => ?_) (fun v49 => ?_)
  · clear hF
    refine doesG_un rfl ?_
    refine (does_move (u := (.func (.func f_f) s_f c_f)) (ev rfl)).mono ?_; rintro _ _ ⟨rfl, rfl⟩
    exact ⟨rfl, Ext.refl _⟩
  refine RW_d (fun v50 => [(.agg #[(Fl r1), (Fl r3), (Fl r5)]), (.agg #[(Fl r7), (Fl r9), (Fl r11)]), (.func (.func f_f) s_f c_f), (Pt b14 0), (Pt b21 0), Ud, (Pt b29 0), v43, v44, v45, v46, v47, v48, v49, v50, Ud, Ud, Ud, Ud, Ud, Ud, Ud, Ud, Ud, Ud, Ud]) rfl (fun _ => rfl) (fun u hu hF => ?_) (fun v50 => ?_)
  · clear hF
    refine doesG_un rfl ?_
    refine (does_fieldAddr (ev rfl) fa26_1).mono ?_; rintro _ _ ⟨rfl, rfl⟩
    exact ⟨rfl, Ext.refl _⟩
  refine RW_d (fun v51 => [(.agg #[(Fl r1), (Fl r3), (Fl r5)]), (.agg #[(Fl r7), (Fl r9), (Fl r11)]), (.func (.func f_f) s_f c_f), (Pt b14 0), (Pt b21 0), Ud, (Pt b29 0), v43, v44, v45, v46, v47, v48, v49, v50, v51, Ud, Ud, Ud, Ud, Ud, Ud, Ud, Ud, Ud, Ud]) rfl (fun _ => rfl) (fun u hu hF => ?_) (fun v51 => ?_)
  · have h14_ : v50 = (Pt b14 1) := hF.1
    clear hF
    refine doesG_un rfl ?_
    obtain rfl := h14_
    refine (does_load (u := (Fl r3)) (ev rfl) Try.isAgg24 (Cells.at (Blk.cells ((((hB16.ext E24).ext E32).ext E40).ext hu)) 1 rfl)).mono ?_; rintro _ _ ⟨rfl, rfl⟩
    exact ⟨rfl, Ext.refl _⟩
  refine RW_d (fun v52 => [(.agg #[(Fl r1), (Fl r3), (Fl r5)]), (.agg #[(Fl r7), (Fl r9), (Fl r11)]), (.func (.func f_f) s_f c_f), (Pt b14 0), (Pt b21 0), Ud, (Pt b29 0), v43, v44, v45, v46, v47, v48, v49, v50, v51, v52, Ud, Ud, Ud, Ud, Ud, Ud, Ud, Ud, Ud]) rfl (fun _ => rfl) (fun u hu hF => ?_) (fun v52 => ?_)
  · clear hF
    refine doesG_un rfl ?_
    refine (does_fieldAddr (ev rfl) fa26_1).mono ?_; rintro _ _ ⟨rfl, rfl⟩
    exact ⟨rfl, Ext.refl _⟩
  refine RW_d (fun v53 => [(.agg #[(Fl r1), (Fl r3), (Fl r5)]), (.agg #[(Fl r7), (Fl r9), (Fl r11)]), (.func (.func f_f) s_f c_f), (Pt b14 0), (Pt b21 0), Ud, (Pt b29 0), v43, v44, v45, v46, v47, v48, v49, v50, v51, v52, v53, Ud, Ud, Ud, Ud, Ud, Ud, Ud, Ud]) rfl (fun _ => rfl) (fun u hu hF => ?_) (fun v53 => ?_)
  · have h16_ : v52 = (Pt b21 1) := hF.1
    clear hF
    refine doesG_un rfl ?_
    obtain rfl := h16_
    refine (does_load (u := (Fl r9)) (ev rfl) Try.isAgg24 (Cells.at (Blk.cells (((hB23.ext E32).ext E40).ext hu)) 1 rfl)).mono ?_; rintro _ _ ⟨rfl, rfl⟩
    exact ⟨rfl, Ext.refl _⟩
  refine RW_d (fun v54 => [(.agg #[(Fl r1), (Fl r3), (Fl r5)]), (.agg #[(Fl r7), (Fl r9), (Fl r11)]), (.func (.func f_f) s_f c_f), (Pt b14 0), (Pt b21 0), Ud, (Pt b29 0), v43, v44, v45, v46, v47, v48, v49, v50, v51, v52, v53, v54, Ud, Ud, Ud, Ud, Ud, Ud, Ud]) rfl (fun _ => rfl) (fun u hu hF => ?_) (fun v54 => ?_)
  · have h15_ : v51 = (Fl r3) := hF.1
    have h17_ : v53 = (Fl r9) := hF.2.1
    have h13_ : v49 = (.func (.func f_f) s_f c_f) := hF.2.2.1
    clear hF
    refine doesG_un rfl ?_
    obtain rfl := h15_
    obtain rfl := h17_
    obtain rfl := h13_
    refine (does_callf (args := #[(Fl r3), (Fl r9)]) (ev rfl) hcal_f (evs rfl) (hg_f r3 r9 _ (Ext.gr (Ext.gr X37 E40) hu))).mono ?_; rintro v u' ⟨hx, ⟨rn1, hv, k0⟩⟩
    exact ⟨⟨rn1, hv, (by simp only [k0])⟩, hx⟩
  refine RW_d (fun v55 => [(.agg #[(Fl r1), (Fl r3), (Fl r5)]), (.agg #[(Fl r7), (Fl r9), (Fl r11)]), (.func (.func f_f) s_f c_f), (Pt b14 0), (Pt b21 0), Ud, (Pt b29 0), v43, v44, v45, v46, v47, v48, v49, v50, v51, v52, v53, v54, v55, Ud, Ud, Ud, Ud, Ud, Ud]) rfl (fun _ => rfl) (fun u hu hF => ?_) (fun v55 => ?_)
  · clear hF
    refine doesG_un rfl ?_
    refine (does_move (u := (.func (.func f_f) s_f c_f)) (ev rfl)).mono ?_; rintro _ _ ⟨rfl, rfl⟩
    exact ⟨rfl, Ext.refl _⟩
  refine RW_d (fun v56 => [(.agg #[(Fl r1), (Fl r3), (Fl r5)]), (.agg #[(Fl r7), (Fl r9), (Fl r11)]), (.func (.func f_f) s_f c_f), (Pt b14 0), (Pt b21 0), Ud, (Pt b29 0), v43, v44, v45, v46, v47, v48, v49, v50, v51, v52, v53, v54, v55, v56, Ud, Ud, Ud, Ud, Ud]) rfl (fun _ => rfl) (fun u hu hF => ?_) (fun v56 => ?_)
  · clear hF
    refine doesG_un rfl ?_
    refine (does_fieldAddr (ev rfl) fa26_2).mono ?_; rintro _ _ ⟨rfl, rfl⟩
    exact ⟨rfl, Ext.refl _⟩
  refine RW_d (fun v57 => [(.agg #[(Fl r1), (Fl r3), (Fl r5)]), (.agg #[(Fl r7), (Fl r9), (Fl r11)]), (.func (.func f_f) s_f c_f), (Pt b14 0), (Pt b21 0), Ud, (Pt b29 0), v43, v44, v45, v46, v47, v48, v49, v50, v51, v52, v53, v54, v55, v56, v57, Ud, Ud, Ud, Ud]) rfl (fun _ => rfl) (fun u hu hF => ?_) (fun v57 => ?_)
  · have h20_ : v56 = (Pt b14 2) := hF.1
    clear hF
    refine doesG_un rfl ?_
    obtain rfl := h20_
    refine (does_load (u := (Fl r5)) (ev rfl) Try.isAgg24 (Cells.at (Blk.cells ((((hB16.ext E24).ext E32).ext E40).ext hu)) 2 rfl)).mono ?_; rintro _ _ ⟨rfl, rfl⟩
    exact ⟨rfl, Ext.refl _⟩
  refine RW_d (fun v58 => [(.agg #[(Fl r1), (Fl r3), (Fl r5)]), (.agg #[(Fl r7), (Fl r9), (Fl r11)]), (.func (.func f_f) s_f c_f), (Pt b14 0), (Pt b21 0), Ud, (Pt b29 0), v43, v44, v45, v46, v47, v48, v49, v50, v51, v52, v53, v54, v55, v56, v57, v58, Ud, Ud, Ud]) rfl (fun _ => rfl) (fun u hu hF => ?_) (fun v58 => ?_)
  · clear hF
    refine doesG_un rfl ?_
    refine (does_fieldAddr (ev rfl) fa26_2).mono ?_; rintro _ _ ⟨rfl, rfl⟩
    exact ⟨rfl, Ext.refl _⟩
  refine RW_d (fun v59 => [(.agg #[(Fl r1), (Fl r3), (Fl r5)]), (.agg #[(Fl r7), (Fl r9), (Fl r11)]), (.func (.func f_f) s_f c_f), (Pt b14 0), (Pt b21 0), Ud, (Pt b29 0), v43, v44, v45, v46, v47, v48, v49, v50, v51, v52, v53, v54, v55, v56, v57, v58, v59, Ud, Ud]) rfl (fun _ => rfl) (fun u hu hF => ?_) (fun v59 => ?_)
  · have h22_ : v58 = (Pt b21 2) := hF.1
    clear hF
    refine doesG_un rfl ?_
    obtain rfl := h22_
    refine (does_load (u := (Fl r11)) (ev rfl) Try.isAgg24 (Cells.at (Blk.cells (((hB23.ext E32).ext E40).ext hu)) 2 rfl)).mono ?_; rintro _ _ ⟨rfl, rfl⟩
    exact ⟨rfl, Ext.refl _⟩
  refine RW_d (fun v60 => [(.agg #[(Fl r1), (Fl r3), (Fl r5)]), (.agg #[(Fl r7), (Fl r9), (Fl r11)]), (.func (.func f_f) s_f c_f), (Pt b14 0), (Pt b21 0), Ud, (Pt b29 0), v43, v44, v45, v46, v47, v48, v49, v50, v51, v52, v53, v54, v55, v56, v57, v58, v59, v60, Ud]) rfl (fun _ => rfl) (fun u hu hF => ?_) (fun v60 => ?_)
  · have h21_ : v57 = (Fl r5) := hF.1
    have h23_ : v59 = (Fl r11) := hF.2.1
    have h19_ : v55 = (.func (.func f_f) s_f c_f) := hF.2.2.1
    clear hF
    refine doesG_un rfl ?_
    obtain rfl := h21_
    obtain rfl := h23_
    obtain rfl := h19_
    refine (does_callf (args := #[(Fl r5), (Fl r11)]) (ev rfl) hcal_f (evs rfl) (hg_f r5 r11 _ (Ext.gr (Ext.gr X37 E40) hu))).mono ?_; rintro v u' ⟨hx, ⟨rn1, hv, k0⟩⟩
    exact ⟨⟨rn1, hv, (by simp only [k0])⟩, hx⟩
  refine RW_d (fun v61 => [(.agg #[(Fl r1), (Fl r3), (Fl r5)]), (.agg #[(Fl r7), (Fl r9), (Fl r11)]), (.func (.func f_f) s_f c_f), (Pt b14 0), (Pt b21 0), Ud, (Pt b29 0), v43, v44, v45, v46, v47, v48, v49, v50, v51, v52, v53, v54, v55, v56, v57, v58, v59, v60, v61]) rfl (fun _ => rfl) (fun u hu hF => ?_) (fun v61 => ?_)
  · have h12_ : ∃ r_1 : Nat, v48 = (Fl r_1) ∧ cf .f32 r_1 = pr_f (cf .f32 r1) (cf .f32 r7) := hF.1
    have h18_ : ∃ r_1 : Nat, v54 = (Fl r_1) ∧ cf .f32 r_1 = pr_f (cf .f32 r3) (cf .f32 r9) := hF.2.1
    have h24_ : ∃ r_1 : Nat, v60 = (Fl r_1) ∧ cf .f32 r_1 = pr_f (cf .f32 r5) (cf .f32 r11) := hF.2.2.1
    clear hF
    refine doesG_un rfl ?_
    obtain ⟨r12_1, rfl, h12_2⟩ := h12_
    obtain ⟨r18_1, rfl, h18_2⟩ := h18_
    obtain ⟨r24_1, rfl, h24_2⟩ := h24_
    refine (does_build (parts' := [(0, (Fl r12_1)), (1, (Fl r18_1)), (2, (Fl r24_1))]) (cells := #[(Fl r12_1), (Fl r18_1), (Fl r24_1)]) (evp rfl) (by kernel_rfl)).mono ?_; rintro _ _ ⟨rfl, rfl⟩
    exact ⟨⟨r12_1, r18_1, r24_1, rfl, (by simp only [h12_2, h18_2, h24_2]), (by simp only [h12_2, h18_2, h24_2]), (by simp only [h12_2, h18_2, h24_2])⟩, Ext.refl _⟩
  refine RW_fin ?_; intro w62 E63 hP64
  obtain ⟨⟨⟨⟨⟨⟨⟨⟨⟨⟨⟨⟨⟨⟨⟨⟨⟨⟨⟨-, -⟩, -⟩, -⟩, -⟩, -⟩, -⟩, -⟩, -⟩, -⟩, -⟩, -⟩, -⟩, -⟩, -⟩, -⟩, -⟩, -⟩, -⟩, q65⟩ := hP64
  have X66 := Ext.gr X42 E63
  have q65 : ∃ r_1 : Nat, ∃ r_2 : Nat, ∃ r_3 : Nat, v61 = (.agg #[(Fl r_1), (Fl r_2), (Fl r_3)]) ∧ cf .f32 r_1 = pr_f (cf .f32 r1) (cf .f32 r7) ∧ cf .f32 r_2 = pr_f (cf .f32 r3) (cf .f32 r9) ∧ cf .f32 r_3 = pr_f (cf .f32 r5) (cf .f32 r11) := q65
  obtain ⟨r67, r69, r71, rfl, h68, h70, h72⟩ := q65
  show wpList _ _ _ _ (fr [(.agg #[(Fl r1), (Fl r3), (Fl r5)]), (.agg #[(Fl r7), (Fl r9), (Fl r11)]), (.func (.func f_f) s_f c_f), (Pt b14 0), (Pt b21 0), Ud, (Pt b29 0), v43, v44, v45, v46, v47, v48, v49, v50, v51, v52, v53, v54, v55, v56, v57, v58, v59, v60, (.agg #[(Fl r67), (Fl r69), (Fl r71)])]) _
  refine seqn rfl rfl (does_store (n := 3) (cs := [(Fl 0), (Fl 0), (Fl 0)]) (u := (.agg #[(Fl r67), (Fl r69), (Fl r71)])) (ev rfl) (ev rfl) Try.sizeOf26 rfl ((hB31.ext E40).ext E63) (Nat.le_of_ble_eq_true rfl) rfl) ?_; rintro _ w75 ⟨rfl, W73, hB74⟩
  change Blk _ _ [(Fl r67), (Fl r69), (Fl r71)] at hB74
  have X76 := Below.wr X66 W73 g36
  refine wpList_nil (hK38 _ _ ?_)
  refine wp_ret ?_
  refine ret_val (v := (.agg #[(Fl r67), (Fl r69), (Fl r71)])) (res_C rfl (slot rfl) (run_loadAgg (cs := [(Fl r67), (Fl r69), (Fl r71)]) Try.isAgg26 Try.sizeOf26 (Blk.cells hB74) rfl)) X76 ?_
  have x77 : cf .f32 r67 = (v2 pr_f A_a A_b).x := by first | with_reducible rfl | (simp only [v2, h2, h4, h6, h8, h10, h12, h68, h70, h72]; done) | (simp [v2, h2, h4, h6, h8, h10, h12, h68, h70, h72]; done) | rfl
  have x78 : cf .f32 r69 = (v2 pr_f A_a A_b).y := by first | with_reducible rfl | (simp only [v2, h2, h4, h6, h8, h10, h12, h68, h70, h72]; done) | (simp [v2, h2, h4, h6, h8, h10, h12, h68, h70, h72]; done) | rfl
  have x79 : cf .f32 r71 = (v2 pr_f A_a A_b).z := by first | with_reducible rfl | (simp only [v2, h2, h4, h6, h8, h10, h12, h68, h70, h72]; done) | (simp [v2, h2, h4, h6, h8, h10, h12, h68, h70, h72]; done) | rfl
  exact ⟨[(Fl r67), (Fl r69), (Fl r71)], rfl, ⟨r67, r69, r71, rfl, x77, x78, x79⟩⟩

/- impl.lesser -/
theorem c_impl_lesser (x : Nat) (y : Nat) (w : World) : Gives Try.prog 59 #[(Fl x), (Fl y)] w (fun v w' => ∃ r_1 : Nat, v = (Fl r_1) ∧ cf .f32 r_1 = fminL (cf .f32 x) (cf .f32 y)) := by
  refine enter [(Fl x), (Fl y), Ud, Ud, Ud, Ud, Ud, Ud, Ud, Ud] Try.func59 rfl Try.ntmps59 rfl ?_
  refine wp_seq_k fun K1 hK1 => ?_
  refine wp_region_lit ?_
  refine q_is (l' := [(Fl x), (Fl y), Ud, Ud, (Fl 0), Ud, Ud, Ud, Ud, Ud]) rfl rfl (does_assign (u := (Fl 0)) (ev rfl)) rfl ?_
  refine wpList_nil (hK1 _ _ ?_)
  refine wp_seq_k fun K2 hK2 => ?_
  refine wp_seq_k fun K3 hK3 => ?_
  refine wp_region_lit ?_
  refine q_is (l' := [(Fl x), (Fl y), Ud, Ud, (Fl 0), (Fl y), Ud, Ud, Ud, Ud]) rfl rfl (does_move (u := (Fl y)) (ev rfl)) rfl ?_
  refine q_is (l' := [(Fl x), (Fl y), Ud, Ud, (Fl 0), (Fl y), (Fl x), Ud, Ud, Ud]) rfl rfl (does_move (u := (Fl x)) (ev rfl)) rfl ?_
  refine q_is (l' := [(Fl x), (Fl y), Ud, Ud, (Fl 0), (Fl y), (Fl x), (Bo (fcmp .lss (ford .f32 (cf .f32 y) (cf .f32 x)))), Ud, Ud]) rfl rfl (does_fcmp (.inr (.inr (.inl rfl))) (ev rfl) (ev rfl)) rfl ?_
  refine wpList_nil (hK3 _ _ ?_)
  refine wp_cond_split (t := fcmp .lss (ford .f32 (cf .f32 y) (cf .f32 x))) (ev rfl) (fun c4 => ?_) (fun c4 => ?_)
  · have c4' := c4
    refine wp_seq_k fun K5 hK5 => ?_
    refine wp_region_lit ?_
    refine q_is (l' := [(Fl x), (Fl y), Ud, Ud, (Fl 0), (Fl y), (Fl x), (Bo (fcmp .lss (ford .f32 (cf .f32 y) (cf .f32 x)))), (Fl y), Ud]) rfl rfl (does_move (u := (Fl y)) (ev rfl)) rfl ?_
    refine q_is (l' := [(Fl x), (Fl y), Ud, Ud, (Fl y), (Fl y), (Fl x), (Bo (fcmp .lss (ford .f32 (cf .f32 y) (cf .f32 x)))), (Fl y), Ud]) rfl rfl (does_assign (u := (Fl y)) (ev rfl)) rfl ?_
    refine wpList_nil (hK5 _ _ ?_)
    refine wp_ret ?_
    dsimp only [Exit.then, Exit.inBlock]
    refine ret_val (v := (Fl y)) (res_T rfl (slot rfl)) (Ext.refl w) ?_
    have x6 : cf .f32 y = fminL (cf .f32 x) (cf .f32 y) := by first | with_reducible rfl | (simp only [fminL, c4]; done) | (simp [fminL, c4]; done) | (revert c4; simp +contextual [fminL]; done) | (rcases c4' with hh | hh <;> simp only [hh, fminL, c4]; done) | (rcases c4' with hh | hh <;> simp_all [fminL]; done) | (rcases c4' with hh | hh | hh <;> simp_all [fminL]; done) | (rcases c4' with hh | hh | hh | hh <;> simp_all [fminL]; done) | (simp_all [fminL]; done) | rfl
    exact ⟨y, rfl, x6⟩
  have c4' := c4
  refine wp_skip (hK2 _ _ ?_)
  refine wp_seq_k fun K7 hK7 => ?_
  refine wp_region_lit ?_
  refine q_is (l' := [(Fl x), (Fl y), Ud, Ud, (Fl 0), (Fl y), (Fl x), (Bo (fcmp .lss (ford .f32 (cf .f32 y) (cf .f32 x)))), Ud, (Fl x)]) rfl rfl (does_move (u := (Fl x)) (ev rfl)) rfl ?_
  refine q_is (l' := [(Fl x), (Fl y), Ud, Ud, (Fl x), (Fl y), (Fl x), (Bo (fcmp .lss (ford .f32 (cf .f32 y) (cf .f32 x)))), Ud, (Fl x)]) rfl rfl (does_assign (u := (Fl x)) (ev rfl)) rfl ?_
  refine wpList_nil (hK7 _ _ ?_)
  refine wp_ret ?_
  refine ret_val (v := (Fl x)) (res_T rfl (slot rfl)) (Ext.refl w) ?_
  have x8 : cf .f32 x = fminL (cf .f32 x) (cf .f32 y) := by first | with_reducible rfl | (simp only [fminL, c4]; done) | (simp [fminL, c4]; done) | (revert c4; simp +contextual [fminL]; done) | (rcases c4' with hh | hh <;> simp only [hh, fminL, c4]; done) | (rcases c4' with hh | hh <;> simp_all [fminL]; done) | (rcases c4' with hh | hh | hh <;> simp_all [fminL]; done) | (rcases c4' with hh | hh | hh | hh <;> simp_all [fminL]; done) | (simp_all [fminL]; done) | rfl
  exact ⟨x, rfl, x8⟩

/- impl.greater -/
theorem c_impl_greater (x : Nat) (y : Nat) (w : World) : Gives Try.prog 60 #[(Fl x), (Fl y)] w (fun v w' => ∃ r_1 : Nat, v = (Fl r_1) ∧ cf .f32 r_1 = fmaxG (cf .f32 x) (cf .f32 y)) := by
  refine enter [(Fl x), (Fl y), Ud, Ud, Ud, Ud, Ud, Ud, Ud, Ud] Try.func60 rfl Try.ntmps60 rfl ?_
  refine wp_seq_k fun K1 hK1 => ?_
  refine wp_region_lit ?_
  refine q_is (l' := [(Fl x), (Fl y), Ud, Ud, (Fl 0), Ud, Ud, Ud, Ud, Ud]) rfl rfl (does_assign (u := (Fl 0)) (ev rfl)) rfl ?_
  refine wpList_nil (hK1 _ _ ?_)
  refine wp_seq_k fun K2 hK2 => ?_
  refine wp_seq_k fun K3 hK3 => ?_
  refine wp_region_lit ?_
  refine q_is (l' := [(Fl x), (Fl y), Ud, Ud, (Fl 0), (Fl y), Ud, Ud, Ud, Ud]) rfl rfl (does_move (u := (Fl y)) (ev rfl)) rfl ?_
  refine q_is (l' := [(Fl x), (Fl y), Ud, Ud, (Fl 0), (Fl y), (Fl x), Ud, Ud, Ud]) rfl rfl (does_move (u := (Fl x)) (ev rfl)) rfl ?_
  refine q_is (l' := [(Fl x), (Fl y), Ud, Ud, (Fl 0), (Fl y), (Fl x), (Bo (fcmp .gtr (ford .f32 (cf .f32 y) (cf .f32 x)))), Ud, Ud]) rfl rfl (does_fcmp (.inr (.inr (.inr (.inr (.inl rfl))))) (ev rfl) (ev rfl)) rfl ?_
  refine wpList_nil (hK3 _ _ ?_)
  refine wp_cond_split (t := fcmp .gtr (ford .f32 (cf .f32 y) (cf .f32 x))) (ev rfl) (fun c4 => ?_) (fun c4 => ?_)
  · have c4' := c4
    refine wp_seq_k fun K5 hK5 => ?_
    refine wp_region_lit ?_
    refine q_is (l' := [(Fl x), (Fl y), Ud, Ud, (Fl 0), (Fl y), (Fl x), (Bo (fcmp .gtr (ford .f32 (cf .f32 y) (cf .f32 x)))), (Fl y), Ud]) rfl rfl (does_move (u := (Fl y)) (ev rfl)) rfl ?_
    refine q_is (l' := [(Fl x), (Fl y), Ud, Ud, (Fl y), (Fl y), (Fl x), (Bo (fcmp .gtr (ford .f32 (cf .f32 y) (cf .f32 x)))), (Fl y), Ud]) rfl rfl (does_assign (u := (Fl y)) (ev rfl)) rfl ?_
    refine wpList_nil (hK5 _ _ ?_)
    refine wp_ret ?_
    dsimp only [Exit.then, Exit.inBlock]
    refine ret_val (v := (Fl y)) (res_T rfl (slot rfl)) (Ext.refl w) ?_
    have x6 : cf .f32 y = fmaxG (cf .f32 x) (cf .f32 y) := by first | with_reducible rfl | (simp only [fmaxG, c4]; done) | (simp [fmaxG, c4]; done) | (revert c4; simp +contextual [fmaxG]; done) | (rcases c4' with hh | hh <;> simp only [hh, fmaxG, c4]; done) | (rcases c4' with hh | hh <;> simp_all [fmaxG]; done) | (rcases c4' with hh | hh | hh <;> simp_all [fmaxG]; done) | (rcases c4' with hh | hh | hh | hh <;> simp_all [fmaxG]; done) | (simp_all [fmaxG]; done) | rfl
    exact ⟨y, rfl, x6⟩
  have c4' := c4
  refine wp_skip (hK2 _ _ ?_)
  refine wp_seq_k fun K7 hK7 => ?_
  refine wp_region_lit ?_
  refine q_is (l' := [(Fl x), (Fl y), Ud, Ud, (Fl 0), (Fl y), (Fl x), (Bo (fcmp .gtr (ford .f32 (cf .f32 y) (cf .f32 x)))), Ud, (Fl x)]) rfl rfl (does_move (u := (Fl x)) (ev rfl)) rfl ?_
  refine q_is (l' := [(Fl x), (Fl y), Ud, Ud, (Fl x), (Fl y), (Fl x), (Bo (fcmp .gtr (ford .f32 (cf .f32 y) (cf .f32 x)))), Ud, (Fl x)]) rfl rfl (does_assign (u := (Fl x)) (ev rfl)) rfl ?_
  refine wpList_nil (hK7 _ _ ?_)
  refine wp_ret ?_
  refine ret_val (v := (Fl x)) (res_T rfl (slot rfl)) (Ext.refl w) ?_
  have x8 : cf .f32 x = fmaxG (cf .f32 x) (cf .f32 y) := by first | with_reducible rfl | (simp only [fmaxG, c4]; done) | (simp [fmaxG, c4]; done) | (revert c4; simp +contextual [fmaxG]; done) | (rcases c4' with hh | hh <;> simp only [hh, fmaxG, c4]; done) | (rcases c4' with hh | hh <;> simp_all [fmaxG]; done) | (rcases c4' with hh | hh | hh <;> simp_all [fmaxG]; done) | (rcases c4' with hh | hh | hh | hh <;> simp_all [fmaxG]; done) | (simp_all [fmaxG]; done) | rfl
  exact ⟨x, rfl, x8⟩

end Go.Proofs.Ytbbidfadenmmjaa
