/- contracts of functions, each walked once -/
import Derived.Test.YtcmcooabaglbpaaTy
import Derived.Test.YtcmcooabaglbpaaUni
import Derived.Test.YtcmcooabaglbpaaOwn
import Derived.Test.YtcmcooabaglbpaaPrt
namespace Go.Proofs.Ytcmcooabaglbpaa
open Go Go.RowKit
set_option maxRecDepth 100000
set_option maxHeartbeats 3200000
set_option linter.unusedVariables false
set_option linter.unusedSimpArgs false

/- laws.szVectorS -/
theorem c_laws_szVectorS (a : Value) (L_a : List V3) (left : Int) (w : World) (hv_a : Sl RV3 3 w a L_a) (hle : left ≤ 1048576) (hge : 0 ≤ left) : Gives Try.prog 21 #[a, (Iv left)] w (fun v w' => ∃ i_1 : Int, v = (Iv i_1) ∧ (i_1 < 0 ∨ ((L_a.length : Int) ≤ left ∧ i_1 = left - L_a.length ∧ 0 ≤ i_1))) := by
  have hlen_a := Sl.len hv_a; obtain ⟨p_a, q_a, rfl⟩ := Sl.shape hv_a
  refine enter [(.slice p_a L_a.length q_a), (Iv left), Ud, Ud, Ud, Ud, Ud, Ud, Ud, Ud, Ud, Ud] Try.func21 rfl Try.ntmps21 rfl ?_
  refine wp_seq_k fun K1 hK1 => ?_
  refine wp_region_lit ?_
  refine q_is (l' := [(.slice p_a L_a.length q_a), (Iv left), Ud, Ud, (Iv 0), Ud, Ud, Ud, Ud, Ud, Ud, Ud]) rfl rfl (does_assign (u := (Iv 0)) (ev rfl)) rfl ?_
  refine wpList_nil (hK1 _ _ ?_)
  refine wp_seq_k fun K2 hK2 => ?_
  refine wp_region_lit ?_
  refine q_is (l' := [(.slice p_a L_a.length q_a), (Iv left), Ud, Ud, (Iv 0), (Iv left), Ud, Ud, Ud, Ud, Ud, Ud]) rfl rfl (does_move (u := (Iv left)) (ev rfl)) rfl ?_
  refine q_is (l' := [(.slice p_a L_a.length q_a), (Iv left), Ud, Ud, (Iv 0), (Iv left), (.slice p_a L_a.length q_a), Ud, Ud, Ud, Ud, Ud]) rfl rfl (does_move (u := (.slice p_a L_a.length q_a)) (ev rfl)) rfl ?_
  refine q_is (l' := [(.slice p_a L_a.length q_a), (Iv left), Ud, Ud, (Iv 0), (Iv left), (.slice p_a L_a.length q_a), (Iv (L_a.length : Int)), Ud, Ud, Ud, Ud]) rfl rfl (does_len_slice Try.underlying41 (ev rfl)) rfl ?_
  refine q_is (l' := [(.slice p_a L_a.length q_a), (Iv left), Ud, Ud, (Iv 0), (Iv left), (.slice p_a L_a.length q_a), (Iv (L_a.length : Int)), (Iv (left - (L_a.length : Int))), Ud, Ud, Ud]) rfl rfl (does_iarith (p := left) (q := (L_a.length : Int)) (r := left - (L_a.length : Int)) (ev rfl) (ev rfl) (.inr (.inl ⟨rfl, (in_i64 (by omega) (by omega)).symm⟩))) rfl ?_
  refine q_is (l' := [(.slice p_a L_a.length q_a), (Iv (left - (L_a.length : Int))), Ud, Ud, (Iv 0), (Iv left), (.slice p_a L_a.length q_a), (Iv (L_a.length : Int)), (Iv (left - (L_a.length : Int))), Ud, Ud, Ud]) rfl rfl (does_assign (u := (Iv (left - (L_a.length : Int)))) (ev rfl)) rfl ?_
  refine wpList_nil (hK2 _ _ ?_)
  refine wp_seq_k fun K3 hK3 => ?_
  refine wp_seq_k fun K4 hK4 => ?_
  refine wp_region_lit ?_
  refine q_is (l' := [(.slice p_a L_a.length q_a), (Iv (left - (L_a.length : Int))), Ud, Ud, (Iv 0), (Iv left), (.slice p_a L_a.length q_a), (Iv (L_a.length : Int)), (Iv (left - (L_a.length : Int))), (Iv (left - (L_a.length : Int))), Ud, Ud]) rfl rfl (does_move (u := (Iv (left - (L_a.length : Int)))) (ev rfl)) rfl ?_
  refine q_is (l' := [(.slice p_a L_a.length q_a), (Iv (left - (L_a.length : Int))), Ud, Ud, (Iv 0), (Iv left), (.slice p_a L_a.length q_a), (Iv (L_a.length : Int)), (Iv (left - (L_a.length : Int))), (Iv (left - (L_a.length : Int))), (Bo (icmp .lss (left - (L_a.length : Int)) 0)), Ud]) rfl rfl (does_icmp (p := left - (L_a.length : Int)) (q := 0) (.inr (.inr (.inl rfl))) (ev rfl) (ev rfl)) rfl ?_
  refine wpList_nil (hK4 _ _ ?_)
  refine wp_cond_split (t := icmp .lss (left - (L_a.length : Int)) 0) (ev rfl) (fun c5 => ?_) (fun c5 => ?_)
  · have c5' := c5
    (try simp only [icmp, Bool.and_eq_true, Bool.or_eq_true, Bool.and_eq_false_iff, Bool.or_eq_false_iff, Bool.not_eq_true', Bool.not_eq_false', decide_eq_true_eq, decide_eq_false_iff_not, beq_iff_eq, bne_iff_ne, beq_eq_false_iff_ne, bne_eq_false_iff_eq] at c5')
    refine wp_seq_k fun K6 hK6 => ?_
    refine wp_region_lit ?_
    refine q_is (l' := [(.slice p_a L_a.length q_a), (Iv (left - (L_a.length : Int))), Ud, Ud, (Iv (-1)), (Iv left), (.slice p_a L_a.length q_a), (Iv (L_a.length : Int)), (Iv (left - (L_a.length : Int))), (Iv (left - (L_a.length : Int))), (Bo (icmp .lss (left - (L_a.length : Int)) 0)), Ud]) rfl rfl (does_assign (u := (Iv (-1))) (ev rfl)) rfl ?_
    refine wpList_nil (hK6 _ _ ?_)
    refine wp_ret ?_
    dsimp only [Exit.then, Exit.inBlock]
    refine ret_val (v := (Iv (-1))) (res_T rfl (slot rfl)) (Ext.refl w) ?_
    have x7 : (-1) < 0 ∨ ((L_a.length : Int) ≤ left ∧ (-1) = left - L_a.length ∧ 0 ≤ (-1)) := by omega
    exact ⟨(-1), rfl, x7⟩
  have c5' := c5
  (try simp only [icmp, Bool.and_eq_true, Bool.or_eq_true, Bool.and_eq_false_iff, Bool.or_eq_false_iff, Bool.not_eq_true', Bool.not_eq_false', decide_eq_true_eq, decide_eq_false_iff_not, beq_iff_eq, bne_iff_ne, beq_eq_false_iff_ne, bne_eq_false_iff_eq] at c5')
  refine wp_skip (hK3 _ _ ?_)
  refine wp_seq_k fun K8 hK8 => ?_
  refine wp_region_lit ?_
  refine q_is (l' := [(.slice p_a L_a.length q_a), (Iv (left - (L_a.length : Int))), Ud, Ud, (Iv 0), (Iv left), (.slice p_a L_a.length q_a), (Iv (L_a.length : Int)), (Iv (left - (L_a.length : Int))), (Iv (left - (L_a.length : Int))), (Bo (icmp .lss (left - (L_a.length : Int)) 0)), (Iv (left - (L_a.length : Int)))]) rfl rfl (does_move (u := (Iv (left - (L_a.length : Int)))) (ev rfl)) rfl ?_
  refine q_is (l' := [(.slice p_a L_a.length q_a), (Iv (left - (L_a.length : Int))), Ud, Ud, (Iv (left - (L_a.length : Int))), (Iv left), (.slice p_a L_a.length q_a), (Iv (L_a.length : Int)), (Iv (left - (L_a.length : Int))), (Iv (left - (L_a.length : Int))), (Bo (icmp .lss (left - (L_a.length : Int)) 0)), (Iv (left - (L_a.length : Int)))]) rfl rfl (does_assign (u := (Iv (left - (L_a.length : Int)))) (ev rfl)) rfl ?_
  refine wpList_nil (hK8 _ _ ?_)
  refine wp_ret ?_
  refine ret_val (v := (Iv (left - (L_a.length : Int)))) (res_T rfl (slot rfl)) (Ext.refl w) ?_
  have x9 : (left - (L_a.length : Int)) < 0 ∨ ((L_a.length : Int) ≤ left ∧ (left - (L_a.length : Int)) = left - L_a.length ∧ 0 ≤ (left - (L_a.length : Int))) := by omega
  exact ⟨(left - (L_a.length : Int)), rfl, x9⟩

/- spec.l01Finite -/
theorem c_spec_l01Finite (x : Nat) (w : World) : Gives Try.prog 67 #[(Fl x)] w (fun v w' => v = (Bo (finF (cf .f32 x)))) := by
  refine enter [(Fl x), Ud, Ud, Ud, Ud, Ud, Ud] Try.func67 rfl Try.ntmps67 rfl ?_
  refine wp_seq_k fun K1 hK1 => ?_
  refine wp_region_lit ?_
  refine q_is (l' := [(Fl x), Ud, (Bo false), Ud, Ud, Ud, Ud]) rfl rfl (does_assign (u := (Bo false)) (ev rfl)) rfl ?_
  refine wpList_nil (hK1 _ _ ?_)
  refine wp_seq_k fun K2 hK2 => ?_
  refine wp_region_lit ?_
  refine q_is (l' := [(Fl x), Ud, (Bo false), (Fl x), Ud, Ud, Ud]) rfl rfl (does_move (u := (Fl x)) (ev rfl)) rfl ?_
  refine q_is (l' := [(Fl x), Ud, (Bo false), (Fl x), (Fl x), Ud, Ud]) rfl rfl (does_move (u := (Fl x)) (ev rfl)) rfl ?_
  refine seqd rfl rfl (does_float (.inr (.inl rfl)) (ev rfl) (ev rfl)) ?_; rintro _ w6 ⟨r3, rfl, h4, E5⟩
  have X7 := Ext.gr (Ext.refl w) E5
  show wpList _ _ _ _ (fr [(Fl x), Ud, (Bo false), (Fl x), (Fl x), (Fl r3), Ud]) _
  refine q_is (l' := [(Fl x), Ud, (Bo false), (Fl x), (Fl x), (Fl r3), (Bo (fcmp .eql (ford .f32 (cf .f32 r3) (cf .f32 0))))]) rfl rfl (does_fcmp (.inl rfl) (ev rfl) (ev rfl)) rfl ?_
  refine q_is (l' := [(Fl x), Ud, (Bo (fcmp .eql (ford .f32 (cf .f32 r3) (cf .f32 0)))), (Fl x), (Fl x), (Fl r3), (Bo (fcmp .eql (ford .f32 (cf .f32 r3) (cf .f32 0))))]) rfl rfl (does_assign (u := (Bo (fcmp .eql (ford .f32 (cf .f32 r3) (cf .f32 0))))) (ev rfl)) rfl ?_
  refine wpList_nil (hK2 _ _ ?_)
  refine wp_ret ?_
  refine ret_val (v := (Bo (fcmp .eql (ford .f32 (cf .f32 r3) (cf .f32 0))))) (res_T rfl (slot rfl)) X7 ?_
  have x8 : (finF (cf .f32 x)) = (fcmp .eql (ford .f32 (cf .f32 r3) (cf .f32 0))) := by first | with_reducible rfl | (simp only [finF, h4]; done) | (simp [finF, h4]; done) | rfl
  exact (by first | with_reducible rfl | rw [x8] | rfl)

/- spec.l08Balls -/
theorem c_spec_l08Balls (ctr : Value) (L_ctr : List V3) (rad : Value) (L_rad : List Nat) (w : World) (hv_ctr : Sl RV3 3 w ctr L_ctr) (hv_rad : Sl RF 1 w rad L_rad) : Gives Try.prog 50 #[ctr, rad] w (fun v w' => v = (Bo (okBalls L_ctr L_rad))) := by
  have hlen_ctr := Sl.len hv_ctr; obtain ⟨p_ctr, q_ctr, rfl⟩ := Sl.shape hv_ctr
  have hlen_rad := Sl.len hv_rad; obtain ⟨p_rad, q_rad, rfl⟩ := Sl.shape hv_rad
  refine enter [(.slice p_ctr L_ctr.length q_ctr), (.slice p_rad L_rad.length q_rad), Ud, Ud, Ud, Ud, Ud, Ud, Ud, Ud, Ud, Ud, Ud, Ud, Ud, Ud, Ud, Ud, Ud, Ud, Ud, Ud, Ud, Ud, Ud, Ud, Ud, Ud, Ud, Ud, Ud, Ud, Ud, Ud, Ud, Ud, Ud, Ud, Ud, Ud] Try.func50 rfl Try.ntmps50 rfl ?_
  refine wp_seq_k fun K1 hK1 => ?_
  refine wp_region_lit ?_
  refine q_is rfl rfl (does_assign (u := (Bo false)) (ev rfl)) (by dsimp only [List.set]; try rfl) ?_
  refine wpList_nil (hK1 _ _ ?_)
  refine wp_seq_k fun K2 hK2 => ?_
  refine wp_seq_k fun K3 hK3 => ?_
  obtain ⟨β1, hβ1⟩ : ∃ b : Bool, b = (icmp .lss (L_ctr.length : Int) 1) := ⟨_, rfl⟩
  obtain ⟨β2, hβ2⟩ : ∃ b : Bool, b = (icmp .gtr (L_ctr.length : Int) 16) := ⟨_, rfl⟩
  obtain ⟨β3, hβ3⟩ : ∃ b : Bool, b = (icmp .neq (L_rad.length : Int) (L_ctr.length : Int)) := ⟨_, rfl⟩
  refine region_text (
    [Fact.pure [] (fun v => v = (.slice p_ctr L_ctr.length q_ctr)),
    Fact.pure [6] (fun v => v = (Iv (L_ctr.length : Int))),
    Fact.pure [7] (fun v => v = (Bo β1)),
    Fact.pure [8] (fun v => v = (Bo β1)),
    Fact.pure [9] (fun v => β1 = false → v = (.slice p_ctr L_ctr.length q_ctr)),
    Fact.pure [10, 9] (fun v => β1 = false → v = (Iv (L_ctr.length : Int))),
    Fact.pure [11, 9] (fun v => β1 = false → v = (Bo β2)),
    Fact.pure [9, 12] (fun v => v = (Bo (β1 || β2))),
    Fact.pure [13] (fun v => v = (Bo (β1 || β2))),
    Fact.pure [14] (fun v => (β1 || β2) = false → v = (.slice p_rad L_rad.length q_rad)),
    Fact.pure [15, 14] (fun v => (β1 || β2) = false → v = (Iv (L_rad.length : Int))),
    Fact.pure [14] (fun v => (β1 || β2) = false → v = (.slice p_ctr L_ctr.length q_ctr)),
    Fact.pure [17, 14] (fun v => (β1 || β2) = false → v = (Iv (L_ctr.length : Int))),
    Fact.pure [16, 18, 14] (fun v => (β1 || β2) = false → v = (Bo β3)),
    Fact.pure [14, 19] (fun v => v = (Bo ((β1 || β2) || β3)))]) (by simp [Fact.pure, Fact.mem]) ?_
  refine RW_d _ rfl (fun v => by dsimp only [List.set]; try rfl) (fun u hu hF => ?_) (fun v4 => ?_)
  · clear hF
    refine doesG_un rfl ?_
    refine (does_move (u := (.slice p_ctr L_ctr.length q_ctr)) (ev rfl)).mono ?_; rintro _ _ ⟨rfl, rfl⟩
    exact ⟨rfl, Ext.refl _⟩
  refine RW_d _ rfl (fun v => by dsimp only [List.set]; try rfl) (fun u hu hF => ?_) (fun v5 => ?_)
  · have h6_ : v4 = (.slice p_ctr L_ctr.length q_ctr) := hF.1
    clear hF
    refine doesG_un rfl ?_
    obtain rfl := h6_
    refine (does_len_slice Try.underlying47 (ev rfl)).mono ?_; rintro _ _ ⟨rfl, rfl⟩
    exact ⟨rfl, Ext.refl _⟩
  refine RW_d _ rfl (fun v => by dsimp only [List.set]; try rfl) (fun u hu hF => ?_) (fun v6 => ?_)
  · have h7_ : v5 = (Iv (L_ctr.length : Int)) := hF.1
    clear hF
    refine doesG_un rfl ?_
    obtain rfl := h7_
    refine (does_icmp (p := (L_ctr.length : Int)) (q := 1) (.inr (.inr (.inl rfl))) (ev rfl) (ev rfl)).mono ?_; rintro _ _ ⟨rfl, rfl⟩
    exact ⟨(by first | rfl | (show _ = _; simp only [hβ1]; done) | (show _ = _; simp only [hβ1]; rfl)), Ext.refl _⟩
  refine RW_d _ rfl (fun v => by dsimp only [List.set]; try rfl) (fun u hu hF => ?_) (fun v7 => ?_)
  · have h8_ : v6 = (Bo β1) := hF.1
    clear hF
    refine doesG_un rfl ?_
    obtain rfl := h8_
    refine (does_move (u := (Bo β1)) (ev rfl)).mono ?_; rintro _ _ ⟨rfl, rfl⟩
    exact ⟨rfl, Ext.refl _⟩
  refine RW_d _ rfl (fun v => by dsimp only [List.set]; try rfl) (fun u hu hF => ?_) (fun v8 => ?_)
  · have h9_ : v7 = (Bo β1) := hF.1
    clear hF
    obtain rfl := h9_
    refine doesG_g (b := β1) rfl (yld rfl rfl) (fun hg1 => ?_) (fun hc => ⟨fun hg1 => absurd hg1 hc, Ext.refl _⟩)
    refine (does_move (u := (.slice p_ctr L_ctr.length q_ctr)) (ev rfl)).mono ?_; rintro _ _ ⟨rfl, rfl⟩
    exact ⟨fun _ => rfl, Ext.refl _⟩
  refine RW_d _ rfl (fun v => by dsimp only [List.set]; try rfl) (fun u hu hF => ?_) (fun v9 => ?_)
  · have h10_ : β1 = false → v8 = (.slice p_ctr L_ctr.length q_ctr) := hF.1
    have h9_ : v7 = (Bo β1) := hF.2.1
    clear hF
    obtain rfl := h9_
    refine doesG_g (b := β1) rfl (yld rfl rfl) (fun hg1 => ?_) (fun hc => ⟨fun hg1 => absurd hg1 hc, Ext.refl _⟩)
    obtain rfl := h10_ hg1
    refine (does_len_slice Try.underlying47 (ev rfl)).mono ?_; rintro _ _ ⟨rfl, rfl⟩
    exact ⟨fun _ => rfl, Ext.refl _⟩
  refine RW_d _ rfl (fun v => by dsimp only [List.set]; try rfl) (fun u hu hF => ?_) (fun v10 => ?_)
  · have h11_ : β1 = false → v9 = (Iv (L_ctr.length : Int)) := hF.1
    have h9_ : v7 = (Bo β1) := hF.2.1
    clear hF
    obtain rfl := h9_
    refine doesG_g (b := β1) rfl (yld rfl rfl) (fun hg1 => ?_) (fun hc => ⟨fun hg1 => absurd hg1 hc, Ext.refl _⟩)
    obtain rfl := h11_ hg1
    refine (does_icmp (p := (L_ctr.length : Int)) (q := 16) (.inr (.inr (.inr (.inr (.inl rfl))))) (ev rfl) (ev rfl)).mono ?_; rintro _ _ ⟨rfl, rfl⟩
    exact ⟨fun _ => (by first | rfl | (show _ = _; simp only [hβ2]; done) | (show _ = _; simp only [hβ2]; rfl)), Ext.refl _⟩
  refine RW_d _ rfl (fun v => by dsimp only [List.set]; try rfl) (fun u hu hF => ?_) (fun v11 => ?_)
  · have h9_ : v7 = (Bo β1) := hF.1
    have h12_ : β1 = false → v10 = (Bo β2) := hF.2.1
    clear hF
    refine doesG_un rfl ?_
    skip
    obtain rfl := h9_
    refine (does_pick (b := β1) (u := (Bo true)) (v := v10) (ev rfl) (ev rfl) (ev rfl)).mono ?_; rintro _ _ ⟨rfl, rfl⟩; refine ⟨?_, Ext.refl _⟩; skip
    cases hbb : β1
    all_goals first | (show _ = _; simp only [↓reduceIte, Bool.true_and, Bool.false_and, Bool.true_or, Bool.false_or, Bool.false_eq_true]; done) | (have e_ := h12_ hbb; subst e_; show _ = _; simp only [↓reduceIte, Bool.true_and, Bool.false_and, Bool.true_or, Bool.false_or, Bool.false_eq_true]; done) | rfl | (have e_ := h12_ hbb; subst e_; rfl) | (simp [hbb] at h12_ ⊢; first | done | rfl | (subst h12_; rfl) | simp_all) | (simp [hbb] at h12_ ⊢; done)
  refine RW_d _ rfl (fun v => by dsimp only [List.set]; try rfl) (fun u hu hF => ?_) (fun v12 => ?_)
  · have h13_ : v11 = (Bo (β1 || β2)) := hF.1
    clear hF
    refine doesG_un rfl ?_
    obtain rfl := h13_
    refine (does_move (u := (Bo (β1 || β2))) (ev rfl)).mono ?_; rintro _ _ ⟨rfl, rfl⟩
    exact ⟨rfl, Ext.refl _⟩
  refine RW_d _ rfl (fun v => by dsimp only [List.set]; try rfl) (fun u hu hF => ?_) (fun v13 => ?_)
  · have h14_ : v12 = (Bo (β1 || β2)) := hF.1
    clear hF
    obtain rfl := h14_
    refine doesG_g (b := (β1 || β2)) rfl (yld rfl rfl) (fun hg1 => ?_) (fun hc => ⟨fun hg1 => absurd hg1 hc, Ext.refl _⟩)
    refine (does_move (u := (.slice p_rad L_rad.length q_rad)) (ev rfl)).mono ?_; rintro _ _ ⟨rfl, rfl⟩
    exact ⟨fun _ => rfl, Ext.refl _⟩
  refine RW_d _ rfl (fun v => by dsimp only [List.set]; try rfl) (fun u hu hF => ?_) (fun v14 => ?_)
  · have h15_ : (β1 || β2) = false → v13 = (.slice p_rad L_rad.length q_rad) := hF.1
    have h14_ : v12 = (Bo (β1 || β2)) := hF.2.1
    clear hF
    obtain rfl := h14_
    refine doesG_g (b := (β1 || β2)) rfl (yld rfl rfl) (fun hg1 => ?_) (fun hc => ⟨fun hg1 => absurd hg1 hc, Ext.refl _⟩)
    obtain rfl := h15_ hg1
    refine (does_len_slice Try.underlying25 (ev rfl)).mono ?_; rintro _ _ ⟨rfl, rfl⟩
    exact ⟨fun _ => rfl, Ext.refl _⟩
  refine RW_d _ rfl (fun v => by dsimp only [List.set]; try rfl) (fun u hu hF => ?_) (fun v15 => ?_)
  · have h14_ : v12 = (Bo (β1 || β2)) := hF.1
    clear hF
    obtain rfl := h14_
    refine doesG_g (b := (β1 || β2)) rfl (yld rfl rfl) (fun hg1 => ?_) (fun hc => ⟨fun hg1 => absurd hg1 hc, Ext.refl _⟩)
    refine (does_move (u := (.slice p_ctr L_ctr.length q_ctr)) (ev rfl)).mono ?_; rintro _ _ ⟨rfl, rfl⟩
    exact ⟨fun _ => rfl, Ext.refl _⟩
  refine RW_d _ rfl (fun v => by dsimp only [List.set]; try rfl) (fun u hu hF => ?_) (fun v16 => ?_)
  · have h17_ : (β1 || β2) = false → v15 = (.slice p_ctr L_ctr.length q_ctr) := hF.1
    have h14_ : v12 = (Bo (β1 || β2)) := hF.2.1
    clear hF
    obtain rfl := h14_
    refine doesG_g (b := (β1 || β2)) rfl (yld rfl rfl) (fun hg1 => ?_) (fun hc => ⟨fun hg1 => absurd hg1 hc, Ext.refl _⟩)
    obtain rfl := h17_ hg1
    refine (does_len_slice Try.underlying47 (ev rfl)).mono ?_; rintro _ _ ⟨rfl, rfl⟩
    exact ⟨fun _ => rfl, Ext.refl _⟩
  refine RW_d _ rfl (fun v => by dsimp only [List.set]; try rfl) (fun u hu hF => ?_) (fun v17 => ?_)
  · have h16_ : (β1 || β2) = false → v14 = (Iv (L_rad.length : Int)) := hF.1
    have h18_ : (β1 || β2) = false → v16 = (Iv (L_ctr.length : Int)) := hF.2.1
    have h14_ : v12 = (Bo (β1 || β2)) := hF.2.2.1
    clear hF
    obtain rfl := h14_
    refine doesG_g (b := (β1 || β2)) rfl (yld rfl rfl) (fun hg1 => ?_) (fun hc => ⟨fun hg1 => absurd hg1 hc, Ext.refl _⟩)
    obtain rfl := h16_ hg1
    obtain rfl := h18_ hg1
    refine (does_icmp (p := (L_rad.length : Int)) (q := (L_ctr.length : Int)) (.inr (.inl rfl)) (ev rfl) (ev rfl)).mono ?_; rintro _ _ ⟨rfl, rfl⟩
    exact ⟨fun _ => (by first | rfl | (show _ = _; simp only [hβ3]; done) | (show _ = _; simp only [hβ3]; rfl)), Ext.refl _⟩
  refine RW_d _ rfl (fun v => by dsimp only [List.set]; try rfl) (fun u hu hF => ?_) (fun v18 => ?_)
  · have h14_ : v12 = (Bo (β1 || β2)) := hF.1
    have h19_ : (β1 || β2) = false → v17 = (Bo β3) := hF.2.1
    clear hF
    refine doesG_un rfl ?_
    skip
    obtain rfl := h14_
    refine (does_pick (b := (β1 || β2)) (u := (Bo true)) (v := v17) (ev rfl) (ev rfl) (ev rfl)).mono ?_; rintro _ _ ⟨rfl, rfl⟩; refine ⟨?_, Ext.refl _⟩; skip
    cases hbb : (β1 || β2)
    all_goals first | (show _ = _; simp only [↓reduceIte, Bool.true_and, Bool.false_and, Bool.true_or, Bool.false_or, Bool.false_eq_true]; done) | (have e_ := h19_ hbb; subst e_; show _ = _; simp only [↓reduceIte, Bool.true_and, Bool.false_and, Bool.true_or, Bool.false_or, Bool.false_eq_true]; done) | rfl | (have e_ := h19_ hbb; subst e_; rfl) | (simp [hbb] at h19_ ⊢; first | done | rfl | (subst h19_; rfl) | simp_all) | (simp [hbb] at h19_ ⊢; done)
  refine RW_fin ?_; intro w19 E20 hP21
  obtain ⟨⟨⟨⟨⟨⟨⟨⟨⟨⟨⟨⟨⟨⟨⟨-, -⟩, -⟩, -⟩, -⟩, -⟩, -⟩, -⟩, -⟩, -⟩, -⟩, -⟩, -⟩, -⟩, -⟩, q22⟩ := hP21
  have X23 := Ext.gr (Ext.refl w) E20
  have q22 : v18 = (Bo ((β1 || β2) || β3)) := q22
  obtain rfl := q22
  show wpList _ _ _ _ (fr [_, _, _, _, _, _, _, _, _, _, _, _, _, _, _, _, _, _, _, _, _, _, _, _, _, _, _, _, _, _, _, _, _, _, _, _, _, _, _, _]) _
  refine wpList_nil (hK3 _ _ ?_)
  refine wp_cond_split (t := (β1 || β2) || β3) (ev rfl) (fun c24 => ?_) (fun c24 => ?_)
  · have c24' := c24
    (try simp only [hβ1, hβ2, hβ3] at c24')
    (try simp only [icmp, Bool.and_eq_true, Bool.or_eq_true, Bool.and_eq_false_iff, Bool.or_eq_false_iff, Bool.not_eq_true', Bool.not_eq_false', decide_eq_true_eq, decide_eq_false_iff_not, beq_iff_eq, bne_iff_ne, beq_eq_false_iff_ne, bne_eq_false_iff_eq] at c24')
    refine wp_seq_k fun K25 hK25 => ?_
    refine wp_region_lit ?_
    refine q_is rfl rfl (does_assign (u := (Bo false)) (ev rfl)) (by dsimp only [List.set]; try rfl) ?_
    refine wpList_nil (hK25 _ _ ?_)
    refine wp_ret ?_
    dsimp only [Exit.then, Exit.inBlock]
    refine ret_val (v := (Bo false)) (res_T rfl (slot rfl)) X23 ?_
    try simp only [hβ1, hβ2, hβ3] at c24
    have x26 : (okBalls L_ctr L_rad) = false := by first | exact okBalls_f (by assumption) | exact okBalls_bad (by assumption) (by simp_all [badR, negF]) | exact okBalls_ok (by assumption) hal (by omega)
    exact (by first | with_reducible rfl | rw [x26] | rfl)
  have c24' := c24
  (try simp only [hβ1, hβ2, hβ3] at c24')
  (try simp only [icmp, Bool.and_eq_true, Bool.or_eq_true, Bool.and_eq_false_iff, Bool.or_eq_false_iff, Bool.not_eq_true', Bool.not_eq_false', decide_eq_true_eq, decide_eq_false_iff_not, beq_iff_eq, bne_iff_ne, beq_eq_false_iff_ne, bne_eq_false_iff_eq] at c24')
  refine wp_skip (hK2 _ _ ?_)
  refine wp_seq_k fun K27 hK27 => ?_
  refine wp_seq_k fun K28 hK28 => ?_
  refine wp_region_lit ?_
  refine q_is rfl rfl (does_assign (u := (Iv 0)) (ev rfl)) (by dsimp only [List.set]; try rfl) ?_
  refine wpList_nil (hK28 _ _ ?_)
  refine wp_block ?_
  refine loop_ghost (σ := Nat) (fun k a w' => ∃ u29 : Nat → Value, a = fr [(.slice p_ctr L_ctr.length q_ctr), (.slice p_rad L_rad.length q_rad), Ud, Ud, (u29 4), (Iv (k : Int)), v4, v5, v6, v7, v8, v9, v10, v11, v12, v13, v14, v15, v16, v17, (Bo ((β1 || β2) || β3)), (u29 21), (u29 22), (u29 23), (u29 24), (u29 25), (u29 26), (u29 27), (u29 28), (u29 29), (u29 30), (u29 31), (u29 32), (u29 33), (u29 34), (u29 35), (u29 36), (u29 37), (u29 38), (u29 39)] ∧ Ext w19 w' ∧ (k ≤ L_rad.length ∧ AllTo (fun x => !badR x) L_rad k)) (fun k => L_rad.length - k) 0 ?_ ?_
  · refine ⟨fun t => (([(.slice p_ctr L_ctr.length q_ctr), (.slice p_rad L_rad.length q_rad), Ud, Ud, (Bo false), (Iv 0), v4, v5, v6, v7, v8, v9, v10, v11, v12, v13, v14, v15, v16, v17, (Bo ((β1 || β2) || β3)), Ud, Ud, Ud, Ud, Ud, Ud, Ud, Ud, Ud, Ud, Ud, Ud, Ud, Ud, Ud, Ud, Ud, Ud, Ud] : List Value)[t]?).getD undef, rfl, Ext.refl _, ?_⟩
    exact ⟨Nat.zero_le _, AllTo.zero⟩
  · rintro k a w30 ⟨u29, rfl, E31, ⟨hk, hal⟩⟩
    have X33 := Ext.gr X23 E31
    refine wp_seq_k fun K34 hK34 => ?_
    refine wp_seq_k fun K35 hK35 => ?_
    refine wp_region_lit ?_
    refine q_is rfl rfl (does_move (u := (Iv (k : Int))) (ev rfl)) (by dsimp only [List.set]; try rfl) ?_
    refine q_is rfl rfl (does_move (u := (.slice p_rad L_rad.length q_rad)) (ev rfl)) (by dsimp only [List.set]; try rfl) ?_
    refine q_is rfl rfl (does_len_slice Try.underlying25 (ev rfl)) (by dsimp only [List.set]; try rfl) ?_
    refine q_is rfl rfl (does_icmp (p := (k : Int)) (q := (L_rad.length : Int)) (.inr (.inr (.inl rfl))) (ev rfl) (ev rfl)) (by dsimp only [List.set]; try rfl) ?_
    refine wpList_nil (hK35 _ _ ?_)
    refine wp_cond_split (t := icmp .lss (k : Int) (L_rad.length : Int)) (ev rfl) (fun c36 => ?_) (fun c36 => ?_)
    · have c36' := c36
      (try simp only [hβ1, hβ2, hβ3] at c36')
      (try simp only [icmp, Bool.and_eq_true, Bool.or_eq_true, Bool.and_eq_false_iff, Bool.or_eq_false_iff, Bool.not_eq_true', Bool.not_eq_false', decide_eq_true_eq, decide_eq_false_iff_not, beq_iff_eq, bne_iff_ne, beq_eq_false_iff_ne, bne_eq_false_iff_eq] at c36')
      refine wp_skip (hK34 _ _ ?_)
      refine wp_seq_k fun K37 hK37 => ?_
      refine wp_block ?_
      refine wp_seq_k fun K38 hK38 => ?_
      obtain ⟨el1, hel1⟩ : ∃ e, L_rad[k]? = some e := ⟨_, List.getElem?_eq_getElem (by omega)⟩
      obtain ⟨β4, hβ4⟩ : ∃ b : Bool, b = (fcmp .lss (ford .f32 el1 (cf .f32 0))) := ⟨_, rfl⟩
      refine region_text (
        [Fact.pure [] (fun v => v = (.slice p_rad L_rad.length q_rad)),
    Fact.pure [] (fun v => v = (Iv (k : Int))),
    Fact.mem [27, 28] (fun v w' => PtrR RF w' v el1) (by intro v w1 w2 hx h; exact h.ext RF.mono hx),
    Fact.pure [29] (fun v => ∃ r_1 : Nat, v = (Fl r_1) ∧ cf .f32 r_1 = el1),
    Fact.pure [30] (fun v => v = (Bo (finF el1))),
    Fact.pure [31] (fun v => v = (Bo (!(finF el1)))),
    Fact.pure [32] (fun v => v = (Bo (!(finF el1)))),
    Fact.pure [33] (fun v => (!(finF el1)) = false → v = (.slice p_rad L_rad.length q_rad)),
    Fact.pure [33] (fun v => (!(finF el1)) = false → v = (Iv (k : Int))),
    Fact.mem [34, 35, 33] (fun v w' => (!(finF el1)) = false → PtrR RF w' v el1) (by intro v w1 w2 hx h; exact fun hg1 => (h hg1).ext RF.mono hx),
    Fact.pure [36, 33] (fun v => (!(finF el1)) = false → ∃ r_1 : Nat, v = (Fl r_1) ∧ cf .f32 r_1 = el1),
    Fact.pure [37, 33] (fun v => (!(finF el1)) = false → v = (Bo β4)),
    Fact.pure [33, 38] (fun v => v = (Bo ((!(finF el1)) || β4)))]) (by simp [Fact.pure, Fact.mem]) ?_
      refine RW_d _ rfl (fun v => by dsimp only [List.set]; try rfl) (fun u hu hF => ?_) (fun v39 => ?_)
      · clear hF
        refine doesG_un rfl ?_
        refine (does_move (u := (.slice p_rad L_rad.length q_rad)) (ev rfl)).mono ?_; rintro _ _ ⟨rfl, rfl⟩
        exact ⟨rfl, Ext.refl _⟩
      refine RW_d _ rfl (fun v => by dsimp only [List.set]; try rfl) (fun u hu hF => ?_) (fun v40 => ?_)
      · clear hF
        refine doesG_un rfl ?_
        refine (does_move (u := (Iv (k : Int))) (ev rfl)).mono ?_; rintro _ _ ⟨rfl, rfl⟩
        exact ⟨rfl, Ext.refl _⟩
      refine RW_d _ rfl (fun v => by dsimp only [List.set]; try rfl) (fun u hu hF => ?_) (fun v41 => ?_)
      · have h27_ : v39 = (.slice p_rad L_rad.length q_rad) := hF.1
        have h28_ : v40 = (Iv (k : Int)) := hF.2.1
        clear hF
        refine doesG_un rfl ?_
        obtain rfl := h27_
        obtain rfl := h28_
        refine (does_indexSl (R := RF) (i := (k : Int)) (xs := L_rad) (e := el1) Try.underlying25 Try.sizeOf22 (ev rfl) (ev rfl) (Sl.ext (Sl.ext hv_rad RF.mono X33) RF.mono hu) (by omega) hel1).mono ?_; rintro v u' ⟨b, of, cs, hv, hc, hR, hu'⟩; subst hu'
        exact ⟨⟨b, of, cs, hv, hc, hR⟩, Ext.refl _⟩
      refine RW_d _ rfl (fun v => by dsimp only [List.set]; try rfl) (fun u hu hF => ?_) (fun v42 => ?_)
      · have h29_ : PtrR RF u v41 el1 := hF.1
        clear hF
        refine doesG_un rfl ?_
        obtain ⟨b29_, o29_, _, rfl, hc29_, ⟨r29_1, rfl, h29_2⟩⟩ := h29_
        refine (does_load (u := (Fl r29_1)) (ev rfl) Try.isAgg22 (Cells.at hc29_ 0 rfl)).mono ?_; rintro _ _ ⟨rfl, rfl⟩
        exact ⟨⟨r29_1, rfl, (by simp only [h29_2])⟩, Ext.refl _⟩
      refine RW_d _ rfl (fun v => by dsimp only [List.set]; try rfl) (fun u hu hF => ?_) (fun v43 => ?_)
      · have h30_ : ∃ r_1 : Nat, v42 = (Fl r_1) ∧ cf .f32 r_1 = el1 := hF.1
        clear hF
        refine doesG_un rfl ?_
        obtain ⟨r30_1, rfl, h30_2⟩ := h30_
        refine (does_call (args := #[(Fl r30_1)]) cal67 (evs rfl) (c_spec_l01Finite r30_1 _)).mono ?_; rintro v u' ⟨hx, hv⟩
        exact ⟨hv.trans (by simp only [h30_2]), hx⟩
      refine RW_d _ rfl (fun v => by dsimp only [List.set]; try rfl) (fun u hu hF => ?_) (fun v44 => ?_)
      · have h31_ : v43 = (Bo (finF el1)) := hF.1
        clear hF
        refine doesG_un rfl ?_
        obtain rfl := h31_
        refine (does_not (ev rfl)).mono ?_; rintro _ _ ⟨rfl, rfl⟩
        exact ⟨rfl, Ext.refl _⟩
      refine RW_d _ rfl (fun v => by dsimp only [List.set]; try rfl) (fun u hu hF => ?_) (fun v45 => ?_)
      · have h32_ : v44 = (Bo (!(finF el1))) := hF.1
        clear hF
        refine doesG_un rfl ?_
        obtain rfl := h32_
        refine (does_move (u := (Bo (!(finF el1)))) (ev rfl)).mono ?_; rintro _ _ ⟨rfl, rfl⟩
        exact ⟨rfl, Ext.refl _⟩
      refine RW_d _ rfl (fun v => by dsimp only [List.set]; try rfl) (fun u hu hF => ?_) (fun v46 => ?_)
      · have h33_ : v45 = (Bo (!(finF el1))) := hF.1
        clear hF
        obtain rfl := h33_
        refine doesG_g (b := (!(finF el1))) rfl (yld rfl rfl) (fun hg1 => ?_) (fun hc => ⟨fun hg1 => absurd hg1 hc, Ext.refl _⟩)
        refine (does_move (u := (.slice p_rad L_rad.length q_rad)) (ev rfl)).mono ?_; rintro _ _ ⟨rfl, rfl⟩
        exact ⟨fun _ => rfl, Ext.refl _⟩
      refine RW_d _ rfl (fun v => by dsimp only [List.set]; try rfl) (fun u hu hF => ?_) (fun v47 => ?_)
      · have h33_ : v45 = (Bo (!(finF el1))) := hF.1
        clear hF
        obtain rfl := h33_
        refine doesG_g (b := (!(finF el1))) rfl (yld rfl rfl) (fun hg1 => ?_) (fun hc => ⟨fun hg1 => absurd hg1 hc, Ext.refl _⟩)
        refine (does_move (u := (Iv (k : Int))) (ev rfl)).mono ?_; rintro _ _ ⟨rfl, rfl⟩
        exact ⟨fun _ => rfl, Ext.refl _⟩
      refine RW_d _ rfl (fun v => by dsimp only [List.set]; try rfl) (fun u hu hF => ?_) (fun v48 => ?_)
      · have h34_ : (!(finF el1)) = false → v46 = (.slice p_rad L_rad.length q_rad) := hF.1
        have h35_ : (!(finF el1)) = false → v47 = (Iv (k : Int)) := hF.2.1
        have h33_ : v45 = (Bo (!(finF el1))) := hF.2.2.1
        clear hF
        obtain rfl := h33_
        refine doesG_g (b := (!(finF el1))) rfl (yld rfl rfl) (fun hg1 => ?_) (fun hc => ⟨fun hg1 => absurd hg1 hc, Ext.refl _⟩)
        obtain rfl := h34_ hg1
        obtain rfl := h35_ hg1
        refine (does_indexSl (R := RF) (i := (k : Int)) (xs := L_rad) (e := el1) Try.underlying25 Try.sizeOf22 (ev rfl) (ev rfl) (Sl.ext (Sl.ext hv_rad RF.mono X33) RF.mono hu) (by first | omega | (simp only [icmp, Bool.or_eq_false_iff, Bool.not_eq_false', Bool.not_eq_true', decide_eq_true_eq, decide_eq_false_iff_not, bne_eq_false_iff_eq] at hg1; omega) | (simp only [icmp, Bool.or_eq_false_iff, Bool.not_eq_false', Bool.not_eq_true', decide_eq_true_eq, decide_eq_false_iff_not, bne_eq_false_iff_eq] at hg1 hg2; omega)) hel1).mono ?_; rintro v u' ⟨b, of, cs, hv, hc, hR, hu'⟩; subst hu'
        exact ⟨fun _ => ⟨b, of, cs, hv, hc, hR⟩, Ext.refl _⟩
      refine RW_d _ rfl (fun v => by dsimp only [List.set]; try rfl) (fun u hu hF => ?_) (fun v49 => ?_)
      · have h36_ : (!(finF el1)) = false → PtrR RF u v48 el1 := hF.1
        have h33_ : v45 = (Bo (!(finF el1))) := hF.2.1
        clear hF
        obtain rfl := h33_
        refine doesG_g (b := (!(finF el1))) rfl (yld rfl rfl) (fun hg1 => ?_) (fun hc => ⟨fun hg1 => absurd hg1 hc, Ext.refl _⟩)
        obtain ⟨b36_, o36_, _, rfl, hc36_, ⟨r36_1, rfl, h36_2⟩⟩ := h36_ hg1
        refine (does_load (u := (Fl r36_1)) (ev rfl) Try.isAgg22 (Cells.at hc36_ 0 rfl)).mono ?_; rintro _ _ ⟨rfl, rfl⟩
        exact ⟨fun _ => ⟨r36_1, rfl, (by simp only [h36_2])⟩, Ext.refl _⟩
      refine RW_d _ rfl (fun v => by dsimp only [List.set]; try rfl) (fun u hu hF => ?_) (fun v50 => ?_)
      · have h37_ : (!(finF el1)) = false → ∃ r_1 : Nat, v49 = (Fl r_1) ∧ cf .f32 r_1 = el1 := hF.1
        have h33_ : v45 = (Bo (!(finF el1))) := hF.2.1
        clear hF
        obtain rfl := h33_
        refine doesG_g (b := (!(finF el1))) rfl (yld rfl rfl) (fun hg1 => ?_) (fun hc => ⟨fun hg1 => absurd hg1 hc, Ext.refl _⟩)
        obtain ⟨r37_1, rfl, h37_2⟩ := h37_ hg1
        refine (does_fcmp (.inr (.inr (.inl rfl))) (ev rfl) (ev rfl)).mono ?_; rintro _ _ ⟨rfl, rfl⟩
        exact ⟨fun _ => (by first | rfl | (show _ = _; simp only [hβ4, h37_2]; done) | (show _ = _; simp only [hβ4, h37_2]; rfl)), Ext.refl _⟩
      refine RW_d _ rfl (fun v => by dsimp only [List.set]; try rfl) (fun u hu hF => ?_) (fun v51 => ?_)
      · have h33_ : v45 = (Bo (!(finF el1))) := hF.1
        have h38_ : (!(finF el1)) = false → v50 = (Bo β4) := hF.2.1
        clear hF
        refine doesG_un rfl ?_
        skip
        obtain rfl := h33_
        refine (does_pick (b := (!(finF el1))) (u := (Bo true)) (v := v50) (ev rfl) (ev rfl) (ev rfl)).mono ?_; rintro _ _ ⟨rfl, rfl⟩; refine ⟨?_, Ext.refl _⟩; skip
        cases hbb : (!(finF el1))
        all_goals first | (show _ = _; simp only [↓reduceIte, Bool.true_and, Bool.false_and, Bool.true_or, Bool.false_or, Bool.false_eq_true]; done) | (have e_ := h38_ hbb; subst e_; show _ = _; simp only [↓reduceIte, Bool.true_and, Bool.false_and, Bool.true_or, Bool.false_or, Bool.false_eq_true]; done) | rfl | (have e_ := h38_ hbb; subst e_; rfl) | (simp [hbb] at h38_ ⊢; first | done | rfl | (subst h38_; rfl) | simp_all) | (simp [hbb] at h38_ ⊢; done)
      refine RW_fin ?_; intro w52 E53 hP54
      obtain ⟨⟨⟨⟨⟨⟨⟨⟨⟨⟨⟨⟨⟨-, -⟩, -⟩, -⟩, -⟩, -⟩, -⟩, -⟩, -⟩, -⟩, -⟩, -⟩, -⟩, q55⟩ := hP54
      have X56 := Ext.gr X33 E53
      have q55 : v51 = (Bo ((!(finF el1)) || β4)) := q55
      obtain rfl := q55
      show wpList _ _ _ _ (fr [_, _, _, _, _, _, _, _, _, _, _, _, _, _, _, _, _, _, _, _, _, _, _, _, _, _, _, _, _, _, _, _, _, _, _, _, _, _, _, _]) _
      refine wpList_nil (hK38 _ _ ?_)
      refine wp_cond_split (t := (!(finF el1)) || β4) (ev rfl) (fun c57 => ?_) (fun c57 => ?_)
      · have c57' := c57
        (try simp only [hβ1, hβ2, hβ3, hβ4] at c57')
        (try simp only [icmp, Bool.and_eq_true, Bool.or_eq_true, Bool.and_eq_false_iff, Bool.or_eq_false_iff, Bool.not_eq_true', Bool.not_eq_false', decide_eq_true_eq, decide_eq_false_iff_not, beq_iff_eq, bne_iff_ne, beq_eq_false_iff_ne, bne_eq_false_iff_eq] at c57')
        refine wp_seq_k fun K58 hK58 => ?_
        refine wp_region_lit ?_
        refine q_is rfl rfl (does_assign (u := (Bo false)) (ev rfl)) (by dsimp only [List.set]; try rfl) ?_
        refine wpList_nil (hK58 _ _ ?_)
        refine wp_ret ?_
        dsimp only [Exit.then, Exit.inBlock]
        refine ret_val (v := (Bo false)) (res_T rfl (slot rfl)) X56 ?_
        try simp only [hβ1, hβ2, hβ3, hβ4, hel1] at c24 c36 c57
        have x59 : (okBalls L_ctr L_rad) = false := by first | exact okBalls_f (by assumption) | exact okBalls_bad (by assumption) (by simp_all [badR, negF]) | exact okBalls_ok (by assumption) hal (by omega)
        exact (by first | with_reducible rfl | rw [x59] | rfl)
      have c57' := c57
      (try simp only [hβ1, hβ2, hβ3, hβ4] at c57')
      (try simp only [icmp, Bool.and_eq_true, Bool.or_eq_true, Bool.and_eq_false_iff, Bool.or_eq_false_iff, Bool.not_eq_true', Bool.not_eq_false', decide_eq_true_eq, decide_eq_false_iff_not, beq_iff_eq, bne_iff_ne, beq_eq_false_iff_ne, bne_eq_false_iff_eq] at c57')
      refine wp_skip (hK37 _ _ ?_)
      refine wp_region_lit ?_
      refine q_is rfl rfl (does_move (u := (Iv (k : Int))) (ev rfl)) (by dsimp only [List.set]; try rfl) ?_
      refine q_is rfl rfl (does_iarith (p := (k : Int)) (q := 1) (r := (k : Int) + 1) (ev rfl) (ev rfl) (.inl ⟨rfl, (in_i64 (by omega) (by omega)).symm⟩)) (by dsimp only [List.set]; try rfl) ?_
      refine q_is rfl rfl (does_assign (u := (Iv ((k : Int) + 1))) (ev rfl)) (by dsimp only [List.set]; try rfl) ?_
      refine wpList_nil ?_
      refine ⟨k + 1, ⟨fun t => (([(.slice p_ctr L_ctr.length q_ctr), (.slice p_rad L_rad.length q_rad), Ud, Ud, (u29 4), (Iv ((k : Int) + 1)), v4, v5, v6, v7, v8, v9, v10, v11, v12, v13, v14, v15, v16, v17, (Bo ((β1 || β2) || β3)), (Iv (k : Int)), (.slice p_rad L_rad.length q_rad), (Iv (L_rad.length : Int)), (Bo (icmp .lss (k : Int) (L_rad.length : Int))), (Iv (k : Int)), (Iv ((k : Int) + 1)), v39, v40, v41, v42, v43, v44, v45, v46, v47, v48, v49, v50, (Bo ((!(finF el1)) || β4))] : List Value)[t]?).getD undef, ?_, (Ext.gr E31 E53), ?_⟩, ?_⟩
      · first | rfl | (simp only [Nat.cast_add, Nat.cast_one, Int.natCast_add, Int.natCast_one]; rfl)
      · exact ⟨by omega, AllTo.step hal (by assumption) (by simp_all [badR, negF])⟩
      · omega
    have c36' := c36
    (try simp only [hβ1, hβ2, hβ3] at c36')
    (try simp only [icmp, Bool.and_eq_true, Bool.or_eq_true, Bool.and_eq_false_iff, Bool.or_eq_false_iff, Bool.not_eq_true', Bool.not_eq_false', decide_eq_true_eq, decide_eq_false_iff_not, beq_iff_eq, bne_iff_ne, beq_eq_false_iff_ne, bne_eq_false_iff_eq] at c36')
    refine wp_exit ?_
    refine hK27 _ _ ?_
    refine wp_seq_k fun K60 hK60 => ?_
    refine wp_region_lit ?_
    refine q_is rfl rfl (does_assign (u := (Bo true)) (ev rfl)) (by dsimp only [List.set]; try rfl) ?_
    refine wpList_nil (hK60 _ _ ?_)
    refine wp_ret ?_
    refine ret_val (v := (Bo true)) (res_T rfl (slot rfl)) X33 ?_
    try simp only [hβ1, hβ2, hβ3] at c24 c36
    have x61 : (okBalls L_ctr L_rad) = true := by first | exact okBalls_f (by assumption) | exact okBalls_bad (by assumption) (by simp_all [badR, negF]) | exact okBalls_ok (by assumption) hal (by omega)
    exact (by first | with_reducible rfl | rw [x61] | rfl)

/- spec.l00In -/
theorem c_spec_l00In (n : Int) (low : Int) (high : Int) (w : World) : Gives Try.prog 76 #[(Iv n), (Iv low), (Iv high)] w (fun v w' => v = (Bo (inI n low high))) := by
  refine enter [(Iv n), (Iv low), (Iv high), Ud, Ud, Ud, Ud, Ud, Ud, Ud, Ud, Ud, Ud, Ud, Ud] Try.func76 rfl Try.ntmps76 rfl ?_
  refine wp_seq_k fun K1 hK1 => ?_
  refine wp_region_lit ?_
  refine q_is (l' := [(Iv n), (Iv low), (Iv high), Ud, Ud, Ud, (Bo false), Ud, Ud, Ud, Ud, Ud, Ud, Ud, Ud]) rfl rfl (does_assign (u := (Bo false)) (ev rfl)) rfl ?_
  refine wpList_nil (hK1 _ _ ?_)
  refine wp_seq_k fun K2 hK2 => ?_
  obtain ⟨β1, hβ1⟩ : ∃ b : Bool, b = ((icmp .geq n low) && (icmp .leq n high)) := ⟨_, rfl⟩
  refine region_text (
    [Fact.pure [] (fun v => v = (Iv n)),
    Fact.pure [] (fun v => v = (Iv low)),
    Fact.pure [7, 8] (fun v => v = (Bo (icmp .geq n low))),
    Fact.pure [9] (fun v => v = (Bo (icmp .geq n low))),
    Fact.pure [10] (fun v => (icmp .geq n low) = true → v = (Iv n)),
    Fact.pure [10] (fun v => (icmp .geq n low) = true → v = (Iv high)),
    Fact.pure [11, 12, 10] (fun v => (icmp .geq n low) = true → v = (Bo (icmp .leq n high))),
    Fact.pure [10, 13] (fun v => v = (Bo β1))]) (by simp [Fact.pure, Fact.mem]) ?_
  refine RW_d (fun v3 => [(Iv n), (Iv low), (Iv high), Ud, Ud, Ud, (Bo false), v3, Ud, Ud, Ud, Ud, Ud, Ud, Ud]) rfl (fun _ => rfl) (fun u hu hF => ?_) (fun v3 => ?_)
  · clear hF
    refine doesG_un rfl ?_
    refine (does_move (u := (Iv n)) (ev rfl)).mono ?_; rintro _ _ ⟨rfl, rfl⟩
    exact ⟨rfl, Ext.refl _⟩
  refine RW_d (fun v4 => [(Iv n), (Iv low), (Iv high), Ud, Ud, Ud, (Bo false), v3, v4, Ud, Ud, Ud, Ud, Ud, Ud]) rfl (fun _ => rfl) (fun u hu hF => ?_) (fun v4 => ?_)
  · clear hF
    refine doesG_un rfl ?_
    refine (does_move (u := (Iv low)) (ev rfl)).mono ?_; rintro _ _ ⟨rfl, rfl⟩
    exact ⟨rfl, Ext.refl _⟩
  refine RW_d (fun v5 => [(Iv n), (Iv low), (Iv high), Ud, Ud, Ud, (Bo false), v3, v4, v5, Ud, Ud, Ud, Ud, Ud]) rfl (fun _ => rfl) (fun u hu hF => ?_) (fun v5 => ?_)
  · have h7_ : v3 = (Iv n) := hF.1
    have h8_ : v4 = (Iv low) := hF.2.1
    clear hF
    refine doesG_un rfl ?_
    obtain rfl := h7_
    obtain rfl := h8_
    refine (does_icmp (p := n) (q := low) (.inr (.inr (.inr (.inr (.inr rfl))))) (ev rfl) (ev rfl)).mono ?_; rintro _ _ ⟨rfl, rfl⟩
    exact ⟨rfl, Ext.refl _⟩
  refine RW_d (fun v6 => [(Iv n), (Iv low), (Iv high), Ud, Ud, Ud, (Bo false), v3, v4, v5, v6, Ud, Ud, Ud, Ud]) rfl (fun _ => rfl) (fun u hu hF => ?_) (fun v6 => ?_)
  · have h9_ : v5 = (Bo (icmp .geq n low)) := hF.1
    clear hF
    refine doesG_un rfl ?_
    obtain rfl := h9_
    refine (does_move (u := (Bo (icmp .geq n low))) (ev rfl)).mono ?_; rintro _ _ ⟨rfl, rfl⟩
    exact ⟨rfl, Ext.refl _⟩
  refine RW_d (fun v7 => [(Iv n), (Iv low), (Iv high), Ud, Ud, Ud, (Bo false), v3, v4, v5, v6, v7, Ud, Ud, Ud]) rfl (fun _ => rfl) (fun u hu hF => ?_) (fun v7 => ?_)
  · have h10_ : v6 = (Bo (icmp .geq n low)) := hF.1
    clear hF
    obtain rfl := h10_
    refine doesG_g (b := (icmp .geq n low)) rfl (yld rfl rfl) (fun hg1 => ?_) (fun hc => ⟨fun hg1 => absurd hg1 hc, Ext.refl _⟩)
    refine (does_move (u := (Iv n)) (ev rfl)).mono ?_; rintro _ _ ⟨rfl, rfl⟩
    exact ⟨fun _ => rfl, Ext.refl _⟩
  refine RW_d (fun v8 => [(Iv n), (Iv low), (Iv high), Ud, Ud, Ud, (Bo false), v3, v4, v5, v6, v7, v8, Ud, Ud]) rfl (fun _ => rfl) (fun u hu hF => ?_) (fun v8 => ?_)
  · have h10_ : v6 = (Bo (icmp .geq n low)) := hF.1
    clear hF
    obtain rfl := h10_
    refine doesG_g (b := (icmp .geq n low)) rfl (yld rfl rfl) (fun hg1 => ?_) (fun hc => ⟨fun hg1 => absurd hg1 hc, Ext.refl _⟩)
    refine (does_move (u := (Iv high)) (ev rfl)).mono ?_; rintro _ _ ⟨rfl, rfl⟩
    exact ⟨fun _ => rfl, Ext.refl _⟩
  refine RW_d (fun v9 => [(Iv n), (Iv low), (Iv high), Ud, Ud, Ud, (Bo false), v3, v4, v5, v6, v7, v8, v9, Ud]) rfl (fun _ => rfl) (fun u hu hF => ?_) (fun v9 => ?_)
  · have h11_ : (icmp .geq n low) = true → v7 = (Iv n) := hF.1
    have h12_ : (icmp .geq n low) = true → v8 = (Iv high) := hF.2.1
    have h10_ : v6 = (Bo (icmp .geq n low)) := hF.2.2.1
    clear hF
    obtain rfl := h10_
    refine doesG_g (b := (icmp .geq n low)) rfl (yld rfl rfl) (fun hg1 => ?_) (fun hc => ⟨fun hg1 => absurd hg1 hc, Ext.refl _⟩)
    obtain rfl := h11_ hg1
    obtain rfl := h12_ hg1
    refine (does_icmp (p := n) (q := high) (.inr (.inr (.inr (.inl rfl)))) (ev rfl) (ev rfl)).mono ?_; rintro _ _ ⟨rfl, rfl⟩
    exact ⟨fun _ => rfl, Ext.refl _⟩
  refine RW_d (fun v10 => [(Iv n), (Iv low), (Iv high), Ud, Ud, Ud, (Bo false), v3, v4, v5, v6, v7, v8, v9, v10]) rfl (fun _ => rfl) (fun u hu hF => ?_) (fun v10 => ?_)
  · have h10_ : v6 = (Bo (icmp .geq n low)) := hF.1
    have h13_ : (icmp .geq n low) = true → v9 = (Bo (icmp .leq n high)) := hF.2.1
    clear hF
    refine doesG_un rfl ?_
    skip
    obtain rfl := h10_
    refine (does_pick (b := (icmp .geq n low)) (u := v9) (v := (Bo false)) (ev rfl) (ev rfl) (ev rfl)).mono ?_; rintro _ _ ⟨rfl, rfl⟩; refine ⟨?_, Ext.refl _⟩; rw [hβ1]; skip
    cases hbb : (icmp .geq n low)
    all_goals first | (show _ = _; simp only [↓reduceIte, Bool.true_and, Bool.false_and, Bool.true_or, Bool.false_or, Bool.false_eq_true]; done) | (have e_ := h13_ hbb; subst e_; show _ = _; simp only [↓reduceIte, Bool.true_and, Bool.false_and, Bool.true_or, Bool.false_or, Bool.false_eq_true]; done) | rfl | (have e_ := h13_ hbb; subst e_; rfl) | (simp [hbb] at h13_ ⊢; first | done | rfl | (subst h13_; rfl) | simp_all) | (simp [hbb] at h13_ ⊢; done)
  refine RW_fin ?_; intro w11 E12 hP13
  obtain ⟨⟨⟨⟨⟨⟨⟨⟨-, -⟩, -⟩, -⟩, -⟩, -⟩, -⟩, -⟩, q14⟩ := hP13
  have X15 := Ext.gr (Ext.refl w) E12
  have q14 : v10 = (Bo β1) := q14
  obtain rfl := q14
  show wpList _ _ _ _ (fr [(Iv n), (Iv low), (Iv high), Ud, Ud, Ud, (Bo false), v3, v4, v5, v6, v7, v8, v9, (Bo β1)]) _
  refine q_is (l' := [(Iv n), (Iv low), (Iv high), Ud, Ud, Ud, (Bo β1), v3, v4, v5, v6, v7, v8, v9, (Bo β1)]) rfl rfl (does_assign (u := (Bo β1)) (ev rfl)) rfl ?_
  refine wpList_nil (hK2 _ _ ?_)
  refine wp_ret ?_
  refine ret_val (v := (Bo β1)) (res_T rfl (slot rfl)) X15 ?_
  have x16 : (inI n low high) = β1 := by first | with_reducible rfl | (simp only [inI, hβ1]; done) | (simp [inI, hβ1]; done) | rfl
  exact (by first | with_reducible rfl | rw [x16] | rfl)

/- spec.l08Rounds -/
theorem c_spec_l08Rounds (n_ : Int) (w : World) : Gives Try.prog 51 #[(Iv n_)] w (fun v w' => v = (Bo (inI n_ 0 64))) := by
  refine enter [(Iv n_), Ud, Ud, Ud, Ud] Try.func51 rfl Try.ntmps51 rfl ?_
  refine wp_seq_k fun K1 hK1 => ?_
  refine wp_region_lit ?_
  refine q_is (l' := [(Iv n_), Ud, (Bo false), Ud, Ud]) rfl rfl (does_assign (u := (Bo false)) (ev rfl)) rfl ?_
  refine wpList_nil (hK1 _ _ ?_)
  refine wp_seq_k fun K2 hK2 => ?_
  refine wp_region_lit ?_
  refine q_is (l' := [(Iv n_), Ud, (Bo false), (Iv n_), Ud]) rfl rfl (does_move (u := (Iv n_)) (ev rfl)) rfl ?_
  refine seqd rfl rfl (does_call (args := #[(Iv n_), (Iv 0), (Iv 64)]) cal76 (evs rfl) (c_spec_l00In n_ 0 64 _)) ?_; rintro _ w4 ⟨E3, rfl⟩
  have X5 := Ext.gr (Ext.refl w) E3
  show wpList _ _ _ _ (fr [(Iv n_), Ud, (Bo false), (Iv n_), (Bo (inI n_ 0 64))]) _
  refine q_is (l' := [(Iv n_), Ud, (Bo (inI n_ 0 64)), (Iv n_), (Bo (inI n_ 0 64))]) rfl rfl (does_assign (u := (Bo (inI n_ 0 64))) (ev rfl)) rfl ?_
  refine wpList_nil (hK2 _ _ ?_)
  refine wp_ret ?_
  refine ret_val (v := (Bo (inI n_ 0 64))) (res_T rfl (slot rfl)) X5 ?_
  exact rfl

/- spec.l01Less -/
theorem c_spec_l01Less (a : List Value) (A_a : V3) (b : List Value) (A_b : V3) (w : World) (hv_a : RV3 w A_a a) (hv_b : RV3 w A_b b) : Gives Try.prog 54 #[(.agg a.toArray), (.agg b.toArray)] w (fun v w' => ∃ cs_1 : List Value, v = (.agg cs_1.toArray) ∧ RV3 w (vsub A_a A_b) cs_1) := by
  obtain ⟨r1, r3, r5, rfl, h2, h4, h6⟩ := hv_a
  obtain ⟨r7, r9, r11, rfl, h8, h10, h12⟩ := hv_b
  refine enter [(.agg #[(Fl r1), (Fl r3), (Fl r5)]), (.agg #[(Fl r7), (Fl r9), (Fl r11)]), Ud, Ud, Ud, Ud, Ud, Ud, Ud, Ud, Ud, Ud, Ud, Ud, Ud, Ud, Ud, Ud, Ud, Ud, Ud] Try.func54 rfl Try.ntmps54 rfl ?_
  refine wp_seq_k fun K13 hK13 => ?_
  refine wp_region_lit ?_
  refine seqd rfl rfl (does_box (u := (.agg #[(Fl r1), (Fl r3), (Fl r5)])) (ev rfl)) ?_; rintro _ w18 ⟨b14, rfl, hb15, hB16, E17⟩
  have g19 : w.heap.size ≤ b14 := Nat.le_trans (Below.size (Ext.refl w)) hb15
  change Blk _ _ [(Fl r1), (Fl r3), (Fl r5)] at hB16
  have X20 := Ext.gr (Ext.refl w) E17
  show wpList _ _ _ _ (fr [(.agg #[(Fl r1), (Fl r3), (Fl r5)]), (.agg #[(Fl r7), (Fl r9), (Fl r11)]), (Pt b14 0), Ud, Ud, Ud, Ud, Ud, Ud, Ud, Ud, Ud, Ud, Ud, Ud, Ud, Ud, Ud, Ud, Ud, Ud]) _
  refine seqd rfl rfl (does_box (u := (.agg #[(Fl r7), (Fl r9), (Fl r11)])) (ev rfl)) ?_; rintro _ w25 ⟨b21, rfl, hb22, hB23, E24⟩
  have n26 : b14 < b21 := Nat.lt_of_lt_of_le (Blk.lt hB16) hb22
  have g27 : w.heap.size ≤ b21 := Nat.le_trans (Below.size X20) hb22
  change Blk _ _ [(Fl r7), (Fl r9), (Fl r11)] at hB23
  have X28 := Ext.gr X20 E24
  show wpList _ _ _ _ (fr [(.agg #[(Fl r1), (Fl r3), (Fl r5)]), (.agg #[(Fl r7), (Fl r9), (Fl r11)]), (Pt b14 0), (Pt b21 0), Ud, Ud, Ud, Ud, Ud, Ud, Ud, Ud, Ud, Ud, Ud, Ud, Ud, Ud, Ud, Ud, Ud]) _
  refine seqd rfl rfl (does_alloc z32) ?_; rintro _ w33 ⟨b29, rfl, hb30, hB31, E32⟩
  have n34 : b14 < b29 := Nat.lt_of_lt_of_le (Blk.lt (hB16.ext E24)) hb30
  have n35 : b21 < b29 := Nat.lt_of_lt_of_le (Blk.lt hB23) hb30
  have g36 : w.heap.size ≤ b29 := Nat.le_trans (Below.size X28) hb30
  change Blk _ _ [(Fl 0), (Fl 0), (Fl 0)] at hB31
  have X37 := Ext.gr X28 E32
  show wpList _ _ _ _ (fr [(.agg #[(Fl r1), (Fl r3), (Fl r5)]), (.agg #[(Fl r7), (Fl r9), (Fl r11)]), (Pt b14 0), (Pt b21 0), (Pt b29 0), Ud, Ud, Ud, Ud, Ud, Ud, Ud, Ud, Ud, Ud, Ud, Ud, Ud, Ud, Ud, Ud]) _
  refine wpList_nil (hK13 _ _ ?_)
  refine wp_seq_k fun K38 hK38 => ?_
  refine wp_region_lit ?_
  refine q_is (l' := [(.agg #[(Fl r1), (Fl r3), (Fl r5)]), (.agg #[(Fl r7), (Fl r9), (Fl r11)]), (Pt b14 0), (Pt b21 0), (Pt b29 0), (Pt b14 0), Ud, Ud, Ud, Ud, Ud, Ud, Ud, Ud, Ud, Ud, Ud, Ud, Ud, Ud, Ud]) rfl rfl (does_fieldAddr (ev rfl) fa32_0) rfl ?_
  refine q_is (l' := [(.agg #[(Fl r1), (Fl r3), (Fl r5)]), (.agg #[(Fl r7), (Fl r9), (Fl r11)]), (Pt b14 0), (Pt b21 0), (Pt b29 0), (Pt b14 0), (Fl r1), Ud, Ud, Ud, Ud, Ud, Ud, Ud, Ud, Ud, Ud, Ud, Ud, Ud, Ud]) rfl rfl (does_load (u := (Fl r1)) (ev rfl) Try.isAgg22 (Cells.at (Blk.cells ((hB16.ext E24).ext E32)) 0 rfl)) rfl ?_
  refine q_is (l' := [(.agg #[(Fl r1), (Fl r3), (Fl r5)]), (.agg #[(Fl r7), (Fl r9), (Fl r11)]), (Pt b14 0), (Pt b21 0), (Pt b29 0), (Pt b14 0), (Fl r1), (Pt b21 0), Ud, Ud, Ud, Ud, Ud, Ud, Ud, Ud, Ud, Ud, Ud, Ud, Ud]) rfl rfl (does_fieldAddr (ev rfl) fa32_0) rfl ?_
  refine q_is (l' := [(.agg #[(Fl r1), (Fl r3), (Fl r5)]), (.agg #[(Fl r7), (Fl r9), (Fl r11)]), (Pt b14 0), (Pt b21 0), (Pt b29 0), (Pt b14 0), (Fl r1), (Pt b21 0), (Fl r7), Ud, Ud, Ud, Ud, Ud, Ud, Ud, Ud, Ud, Ud, Ud, Ud]) rfl rfl (does_load (u := (Fl r7)) (ev rfl) Try.isAgg22 (Cells.at (Blk.cells (hB23.ext E32)) 0 rfl)) rfl ?_
  refine seqd rfl rfl (does_float (.inr (.inl rfl)) (ev rfl) (ev rfl)) ?_; rintro _ w42 ⟨r39, rfl, h40, E41⟩
  have X43 := Ext.gr X37 E41
  show wpList _ _ _ _ (fr [(.agg #[(Fl r1), (Fl r3), (Fl r5)]), (.agg #[(Fl r7), (Fl r9), (Fl r11)]), (Pt b14 0), (Pt b21 0), (Pt b29 0), (Pt b14 0), (Fl r1), (Pt b21 0), (Fl r7), (Fl r39), Ud, Ud, Ud, Ud, Ud, Ud, Ud, Ud, Ud, Ud, Ud]) _
  refine q_is (l' := [(.agg #[(Fl r1), (Fl r3), (Fl r5)]), (.agg #[(Fl r7), (Fl r9), (Fl r11)]), (Pt b14 0), (Pt b21 0), (Pt b29 0), (Pt b14 0), (Fl r1), (Pt b21 0), (Fl r7), (Fl r39), (Pt b14 1), Ud, Ud, Ud, Ud, Ud, Ud, Ud, Ud, Ud, Ud]) rfl rfl (does_fieldAddr (ev rfl) fa32_1) rfl ?_
  refine q_is (l' := [(.agg #[(Fl r1), (Fl r3), (Fl r5)]), (.agg #[(Fl r7), (Fl r9), (Fl r11)]), (Pt b14 0), (Pt b21 0), (Pt b29 0), (Pt b14 0), (Fl r1), (Pt b21 0), (Fl r7), (Fl r39), (Pt b14 1), (Fl r3), Ud, Ud, Ud, Ud, Ud, Ud, Ud, Ud, Ud]) rfl rfl (does_load (u := (Fl r3)) (ev rfl) Try.isAgg22 (Cells.at (Blk.cells (((hB16.ext E24).ext E32).ext E41)) 1 rfl)) rfl ?_
  refine q_is (l' := [(.agg #[(Fl r1), (Fl r3), (Fl r5)]), (.agg #[(Fl r7), (Fl r9), (Fl r11)]), (Pt b14 0), (Pt b21 0), (Pt b29 0), (Pt b14 0), (Fl r1), (Pt b21 0), (Fl r7), (Fl r39), (Pt b14 1), (Fl r3), (Pt b21 1), Ud, Ud, Ud, Ud, Ud, Ud, Ud, Ud]) rfl rfl (does_fieldAddr (ev rfl) fa32_1) rfl ?_
  refine q_is (l' := [(.agg #[(Fl r1), (Fl r3), (Fl r5)]), (.agg #[(Fl r7), (Fl r9), (Fl r11)]), (Pt b14 0), (Pt b21 0), (Pt b29 0), (Pt b14 0), (Fl r1), (Pt b21 0), (Fl r7), (Fl r39), (Pt b14 1), (Fl r3), (Pt b21 1), (Fl r9), Ud, Ud, Ud, Ud, Ud, Ud, Ud]) rfl rfl (does_load (u := (Fl r9)) (ev rfl) Try.isAgg22 (Cells.at (Blk.cells ((hB23.ext E32).ext E41)) 1 rfl)) rfl ?_
  refine seqd rfl rfl (does_float (.inr (.inl rfl)) (ev rfl) (ev rfl)) ?_; rintro _ w47 ⟨r44, rfl, h45, E46⟩
  have X48 := Ext.gr X43 E46
  show wpList _ _ _ _ (fr [(.agg #[(Fl r1), (Fl r3), (Fl r5)]), (.agg #[(Fl r7), (Fl r9), (Fl r11)]), (Pt b14 0), (Pt b21 0), (Pt b29 0), (Pt b14 0), (Fl r1), (Pt b21 0), (Fl r7), (Fl r39), (Pt b14 1), (Fl r3), (Pt b21 1), (Fl r9), (Fl r44), Ud, Ud, Ud, Ud, Ud, Ud]) _
  refine q_is (l' := [(.agg #[(Fl r1), (Fl r3), (Fl r5)]), (.agg #[(Fl r7), (Fl r9), (Fl r11)]), (Pt b14 0), (Pt b21 0), (Pt b29 0), (Pt b14 0), (Fl r1), (Pt b21 0), (Fl r7), (Fl r39), (Pt b14 1), (Fl r3), (Pt b21 1), (Fl r9), (Fl r44), (Pt b14 2), Ud, Ud, Ud, Ud, Ud]) rfl rfl (does_fieldAddr (ev rfl) fa32_2) rfl ?_
  refine q_is (l' := [(.agg #[(Fl r1), (Fl r3), (Fl r5)]), (.agg #[(Fl r7), (Fl r9), (Fl r11)]), (Pt b14 0), (Pt b21 0), (Pt b29 0), (Pt b14 0), (Fl r1), (Pt b21 0), (Fl r7), (Fl r39), (Pt b14 1), (Fl r3), (Pt b21 1), (Fl r9), (Fl r44), (Pt b14 2), (Fl r5), Ud, Ud, Ud, Ud]) rfl rfl (does_load (u := (Fl r5)) (ev rfl) Try.isAgg22 (Cells.at (Blk.cells ((((hB16.ext E24).ext E32).ext E41).ext E46)) 2 rfl)) rfl ?_
  refine q_is (l' := [(.agg #[(Fl r1), (Fl r3), (Fl r5)]), (.agg #[(Fl r7), (Fl r9), (Fl r11)]), (Pt b14 0), (Pt b21 0), (Pt b29 0), (Pt b14 0), (Fl r1), (Pt b21 0), (Fl r7), (Fl r39), (Pt b14 1), (Fl r3), (Pt b21 1), (Fl r9), (Fl r44), (Pt b14 2), (Fl r5), (Pt b21 2), Ud, Ud, Ud]) rfl rfl (does_fieldAddr (ev rfl) fa32_2) rfl ?_
  refine q_is (l' := [(.agg #[(Fl r1), (Fl r3), (Fl r5)]), (.agg #[(Fl r7), (Fl r9), (Fl r11)]), (Pt b14 0), (Pt b21 0), (Pt b29 0), (Pt b14 0), (Fl r1), (Pt b21 0), (Fl r7), (Fl r39), (Pt b14 1), (Fl r3), (Pt b21 1), (Fl r9), (Fl r44), (Pt b14 2), (Fl r5), (Pt b21 2), (Fl r11), Ud, Ud]) rfl rfl (does_load (u := (Fl r11)) (ev rfl) Try.isAgg22 (Cells.at (Blk.cells (((hB23.ext E32).ext E41).ext E46)) 2 rfl)) rfl ?_
  refine seqd rfl rfl (does_float (.inr (.inl rfl)) (ev rfl) (ev rfl)) ?_; rintro _ w52 ⟨r49, rfl, h50, E51⟩
  have X53 := Ext.gr X48 E51
  show wpList _ _ _ _ (fr [(.agg #[(Fl r1), (Fl r3), (Fl r5)]), (.agg #[(Fl r7), (Fl r9), (Fl r11)]), (Pt b14 0), (Pt b21 0), (Pt b29 0), (Pt b14 0), (Fl r1), (Pt b21 0), (Fl r7), (Fl r39), (Pt b14 1), (Fl r3), (Pt b21 1), (Fl r9), (Fl r44), (Pt b14 2), (Fl r5), (Pt b21 2), (Fl r11), (Fl r49), Ud]) _
  refine q_is (l' := [(.agg #[(Fl r1), (Fl r3), (Fl r5)]), (.agg #[(Fl r7), (Fl r9), (Fl r11)]), (Pt b14 0), (Pt b21 0), (Pt b29 0), (Pt b14 0), (Fl r1), (Pt b21 0), (Fl r7), (Fl r39), (Pt b14 1), (Fl r3), (Pt b21 1), (Fl r9), (Fl r44), (Pt b14 2), (Fl r5), (Pt b21 2), (Fl r11), (Fl r49), (.agg #[(Fl r39), (Fl r44), (Fl r49)])]) rfl rfl (does_build (parts' := [(0, (Fl r39)), (1, (Fl r44)), (2, (Fl r49))]) (cells := #[(Fl r39), (Fl r44), (Fl r49)]) (evp rfl) (by kernel_rfl)) rfl ?_
  refine seqn rfl rfl (does_store (n := 3) (cs := [(Fl 0), (Fl 0), (Fl 0)]) (u := (.agg #[(Fl r39), (Fl r44), (Fl r49)])) (ev rfl) (ev rfl) Try.sizeOf32 rfl (((hB31.ext E41).ext E46).ext E51) (Nat.le_of_ble_eq_true rfl) rfl) ?_; rintro _ w56 ⟨rfl, W54, hB55⟩
  change Blk _ _ [(Fl r39), (Fl r44), (Fl r49)] at hB55
  have X57 := Below.wr X53 W54 g36
  refine wpList_nil (hK38 _ _ ?_)
  refine wp_ret ?_
  refine ret_val (v := (.agg #[(Fl r39), (Fl r44), (Fl r49)])) (res_C rfl (slot rfl) (run_loadAgg (cs := [(Fl r39), (Fl r44), (Fl r49)]) Try.isAgg32 Try.sizeOf32 (Blk.cells hB55) rfl)) X57 ?_
  have x58 : cf .f32 r39 = (vsub A_a A_b).x := by first | with_reducible rfl | (simp only [vsub, h2, h4, h6, h8, h10, h12, h40, h45, h50]; done) | (simp [vsub, h2, h4, h6, h8, h10, h12, h40, h45, h50]; done) | rfl
  have x59 : cf .f32 r44 = (vsub A_a A_b).y := by first | with_reducible rfl | (simp only [vsub, h2, h4, h6, h8, h10, h12, h40, h45, h50]; done) | (simp [vsub, h2, h4, h6, h8, h10, h12, h40, h45, h50]; done) | rfl
  have x60 : cf .f32 r49 = (vsub A_a A_b).z := by first | with_reducible rfl | (simp only [vsub, h2, h4, h6, h8, h10, h12, h40, h45, h50]; done) | (simp [vsub, h2, h4, h6, h8, h10, h12, h40, h45, h50]; done) | rfl
  exact ⟨[(Fl r39), (Fl r44), (Fl r49)], rfl, ⟨r39, r44, r49, rfl, x58, x59, x60⟩⟩

/- spec.l01Narrow -/
theorem c_spec_l01Narrow (x : Nat) (w : World) (hn : nov (cf .f64 x) = true) : Gives Try.prog 100 #[(Fd x)] w (fun v w' => ∃ r_1 : Nat, v = (Fl r_1) ∧ cf .f32 r_1 = fnar (cf .f64 x)) := by
  refine enter [(Fd x), Ud, Ud, Ud, Ud] Try.func100 rfl Try.ntmps100 rfl ?_
  refine wp_seq_k fun K1 hK1 => ?_
  refine wp_region_lit ?_
  refine q_is (l' := [(Fd x), Ud, (Fl 0), Ud, Ud]) rfl rfl (does_assign (u := (Fl 0)) (ev rfl)) rfl ?_
  refine wpList_nil (hK1 _ _ ?_)
  refine wp_seq_k fun K2 hK2 => ?_
  refine wp_region_lit ?_
  refine q_is (l' := [(Fd x), Ud, (Fl 0), (Fd x), Ud]) rfl rfl (does_move (u := (Fd x)) (ev rfl)) rfl ?_
  refine seqd rfl rfl (does_narrow Try.underlying75 Try.underlying22 (ev rfl) (by first | assumption | (simp only [cf_cf]; exact nov_sqrt _))) ?_; rintro _ w6 ⟨r3, rfl, h4, E5⟩
  have X7 := Ext.gr (Ext.refl w) E5
  show wpList _ _ _ _ (fr [(Fd x), Ud, (Fl 0), (Fd x), (Fl r3)]) _
  refine q_is (l' := [(Fd x), Ud, (Fl r3), (Fd x), (Fl r3)]) rfl rfl (does_assign (u := (Fl r3)) (ev rfl)) rfl ?_
  refine wpList_nil (hK2 _ _ ?_)
  refine wp_ret ?_
  refine ret_val (v := (Fl r3)) (res_T rfl (slot rfl)) X7 ?_
  have x8 : cf .f32 r3 = fnar (cf .f64 x) := by first | with_reducible rfl | (simp only [h4]; done) | (simp [h4]; done) | rfl
  exact ⟨r3, rfl, x8⟩

/- math.Sqrt -/
theorem c_math_Sqrt (x : Nat) (w : World) : Gives Try.prog 101 #[(Fd x)] w (fun v w' => ∃ r_1 : Nat, v = (Fd r_1) ∧ cf .f64 r_1 = fsqrt (cf .f64 x)) := by
  refine enter [(Fd x), Ud, Ud, Ud, Ud] Try.func101 rfl Try.ntmps101 rfl ?_
  refine wp_seq_k fun K1 hK1 => ?_
  refine wp_region_lit ?_
  refine q_is (l' := [(Fd x), Ud, (Fd 0), Ud, Ud]) rfl rfl (does_assign (u := (Fd 0)) (ev rfl)) rfl ?_
  refine wpList_nil (hK1 _ _ ?_)
  refine wp_seq_k fun K2 hK2 => ?_
  refine wp_region_lit ?_
  refine q_is (l' := [(Fd x), Ud, (Fd 0), (Fd x), Ud]) rfl rfl (does_move (u := (Fd x)) (ev rfl)) rfl ?_
  refine seqd rfl rfl (does_sqrt (p := x) (ev rfl) csq102) ?_; rintro _ w6 ⟨r3, rfl, h4, E5⟩
  have X7 := Ext.gr (Ext.refl w) E5
  show wpList _ _ _ _ (fr [(Fd x), Ud, (Fd 0), (Fd x), (Fd r3)]) _
  refine q_is (l' := [(Fd x), Ud, (Fd r3), (Fd x), (Fd r3)]) rfl rfl (does_assign (u := (Fd r3)) (ev rfl)) rfl ?_
  refine wpList_nil (hK2 _ _ ?_)
  refine wp_ret ?_
  refine ret_val (v := (Fd r3)) (res_T rfl (slot rfl)) X7 ?_
  have x8 : cf .f64 r3 = fsqrt (cf .f64 x) := by first | with_reducible rfl | (simp only [h4]; done) | (simp [h4]; done) | rfl
  exact ⟨r3, rfl, x8⟩

/- spec.l01Sqrt -/
theorem c_spec_l01Sqrt (x : Nat) (w : World) : Gives Try.prog 91 #[(Fl x)] w (fun v w' => ∃ r_1 : Nat, v = (Fl r_1) ∧ cf .f32 r_1 = rootF (cf .f32 x)) := by
  refine enter [(Fl x), Ud, Ud, Ud, Ud, Ud, Ud] Try.func91 rfl Try.ntmps91 rfl ?_
  refine wp_seq_k fun K1 hK1 => ?_
  refine wp_region_lit ?_
  refine q_is (l' := [(Fl x), Ud, (Fl 0), Ud, Ud, Ud, Ud]) rfl rfl (does_assign (u := (Fl 0)) (ev rfl)) rfl ?_
  refine wpList_nil (hK1 _ _ ?_)
  refine wp_seq_k fun K2 hK2 => ?_
  refine wp_region_lit ?_
  refine q_is (l' := [(Fl x), Ud, (Fl 0), (Fl x), Ud, Ud, Ud]) rfl rfl (does_move (u := (Fl x)) (ev rfl)) rfl ?_
  refine seqd rfl rfl (does_widen Try.underlying22 Try.underlying75 (ev rfl)) ?_; rintro _ w6 ⟨r3, rfl, h4, E5⟩
  have X7 := Ext.gr (Ext.refl w) E5
  show wpList _ _ _ _ (fr [(Fl x), Ud, (Fl 0), (Fl x), (Fd r3), Ud, Ud]) _
  refine seqd rfl rfl (does_call (args := #[(Fd r3)]) cal101 (evs rfl) (c_math_Sqrt r3 _)) ?_; rintro _ w9 ⟨E8, ⟨r10, rfl, h11⟩⟩
  have X12 := Ext.gr X7 E8
  show wpList _ _ _ _ (fr [(Fl x), Ud, (Fl 0), (Fl x), (Fd r3), (Fd r10), Ud]) _
  refine seqd rfl rfl (does_call (args := #[(Fd r10)]) cal100 (evs rfl) (c_spec_l01Narrow r10 _ (by simp only [h4, h11]; exact nov_sqrt _))) ?_; rintro _ w14 ⟨E13, ⟨r15, rfl, h16⟩⟩
  have X17 := Ext.gr X12 E13
  show wpList _ _ _ _ (fr [(Fl x), Ud, (Fl 0), (Fl x), (Fd r3), (Fd r10), (Fl r15)]) _
  refine q_is (l' := [(Fl x), Ud, (Fl r15), (Fl x), (Fd r3), (Fd r10), (Fl r15)]) rfl rfl (does_assign (u := (Fl r15)) (ev rfl)) rfl ?_
  refine wpList_nil (hK2 _ _ ?_)
  refine wp_ret ?_
  refine ret_val (v := (Fl r15)) (res_T rfl (slot rfl)) X17 ?_
  have x18 : cf .f32 r15 = rootF (cf .f32 x) := by first | with_reducible rfl | (simp only [rootF, h4, h11, h16]; done) | (simp [rootF, h4, h11, h16]; done) | rfl
  exact ⟨r15, rfl, x18⟩

/- spec.l01Inner -/
theorem c_spec_l01Inner (a : List Value) (A_a : V3) (b : List Value) (A_b : V3) (w : World) (hv_a : RV3 w A_a a) (hv_b : RV3 w A_b b) : Gives Try.prog 92 #[(.agg a.toArray), (.agg b.toArray)] w (fun v w' => ∃ r_1 : Nat, v = (Fl r_1) ∧ cf .f32 r_1 = innerF A_a A_b) := by
  obtain ⟨r1, r3, r5, rfl, h2, h4, h6⟩ := hv_a
  obtain ⟨r7, r9, r11, rfl, h8, h10, h12⟩ := hv_b
  refine enter [(.agg #[(Fl r1), (Fl r3), (Fl r5)]), (.agg #[(Fl r7), (Fl r9), (Fl r11)]), Ud, Ud, Ud, Ud, Ud, Ud, Ud, Ud, Ud, Ud, Ud, Ud, Ud, Ud, Ud, Ud, Ud, Ud, Ud, Ud] Try.func92 rfl Try.ntmps92 rfl ?_
  refine wp_seq_k fun K13 hK13 => ?_
  refine wp_region_lit ?_
  refine seqd rfl rfl (does_box (u := (.agg #[(Fl r1), (Fl r3), (Fl r5)])) (ev rfl)) ?_; rintro _ w18 ⟨b14, rfl, hb15, hB16, E17⟩
  have g19 : w.heap.size ≤ b14 := Nat.le_trans (Below.size (Ext.refl w)) hb15
  change Blk _ _ [(Fl r1), (Fl r3), (Fl r5)] at hB16
  have X20 := Ext.gr (Ext.refl w) E17
  show wpList _ _ _ _ (fr [(.agg #[(Fl r1), (Fl r3), (Fl r5)]), (.agg #[(Fl r7), (Fl r9), (Fl r11)]), (Pt b14 0), Ud, Ud, Ud, Ud, Ud, Ud, Ud, Ud, Ud, Ud, Ud, Ud, Ud, Ud, Ud, Ud, Ud, Ud, Ud]) _
  refine seqd rfl rfl (does_box (u := (.agg #[(Fl r7), (Fl r9), (Fl r11)])) (ev rfl)) ?_; rintro _ w25 ⟨b21, rfl, hb22, hB23, E24⟩
  have n26 : b14 < b21 := Nat.lt_of_lt_of_le (Blk.lt hB16) hb22
  have g27 : w.heap.size ≤ b21 := Nat.le_trans (Below.size X20) hb22
  change Blk _ _ [(Fl r7), (Fl r9), (Fl r11)] at hB23
  have X28 := Ext.gr X20 E24
  show wpList _ _ _ _ (fr [(.agg #[(Fl r1), (Fl r3), (Fl r5)]), (.agg #[(Fl r7), (Fl r9), (Fl r11)]), (Pt b14 0), (Pt b21 0), Ud, Ud, Ud, Ud, Ud, Ud, Ud, Ud, Ud, Ud, Ud, Ud, Ud, Ud, Ud, Ud, Ud, Ud]) _
  refine q_is (l' := [(.agg #[(Fl r1), (Fl r3), (Fl r5)]), (.agg #[(Fl r7), (Fl r9), (Fl r11)]), (Pt b14 0), (Pt b21 0), (Fl 0), Ud, Ud, Ud, Ud, Ud, Ud, Ud, Ud, Ud, Ud, Ud, Ud, Ud, Ud, Ud, Ud, Ud]) rfl rfl (does_assign (u := (Fl 0)) (ev rfl)) rfl ?_
  refine wpList_nil (hK13 _ _ ?_)
  refine wp_seq_k fun K29 hK29 => ?_
  refine wp_region_lit ?_
  refine q_is (l' := [(.agg #[(Fl r1), (Fl r3), (Fl r5)]), (.agg #[(Fl r7), (Fl r9), (Fl r11)]), (Pt b14 0), (Pt b21 0), (Fl 0), (Pt b14 0), Ud, Ud, Ud, Ud, Ud, Ud, Ud, Ud, Ud, Ud, Ud, Ud, Ud, Ud, Ud, Ud]) rfl rfl (does_fieldAddr (ev rfl) fa32_0) rfl ?_
  refine q_is (l' := [(.agg #[(Fl r1), (Fl r3), (Fl r5)]), (.agg #[(Fl r7), (Fl r9), (Fl r11)]), (Pt b14 0), (Pt b21 0), (Fl 0), (Pt b14 0), (Fl r1), Ud, Ud, Ud, Ud, Ud, Ud, Ud, Ud, Ud, Ud, Ud, Ud, Ud, Ud, Ud]) rfl rfl (does_load (u := (Fl r1)) (ev rfl) Try.isAgg22 (Cells.at (Blk.cells (hB16.ext E24)) 0 rfl)) rfl ?_
  refine q_is (l' := [(.agg #[(Fl r1), (Fl r3), (Fl r5)]), (.agg #[(Fl r7), (Fl r9), (Fl r11)]), (Pt b14 0), (Pt b21 0), (Fl 0), (Pt b14 0), (Fl r1), (Pt b21 0), Ud, Ud, Ud, Ud, Ud, Ud, Ud, Ud, Ud, Ud, Ud, Ud, Ud, Ud]) rfl rfl (does_fieldAddr (ev rfl) fa32_0) rfl ?_
  refine q_is (l' := [(.agg #[(Fl r1), (Fl r3), (Fl r5)]), (.agg #[(Fl r7), (Fl r9), (Fl r11)]), (Pt b14 0), (Pt b21 0), (Fl 0), (Pt b14 0), (Fl r1), (Pt b21 0), (Fl r7), Ud, Ud, Ud, Ud, Ud, Ud, Ud, Ud, Ud, Ud, Ud, Ud, Ud]) rfl rfl (does_load (u := (Fl r7)) (ev rfl) Try.isAgg22 (Cells.at (Blk.cells hB23) 0 rfl)) rfl ?_
  refine seqd rfl rfl (does_float (.inr (.inr (.inl rfl))) (ev rfl) (ev rfl)) ?_; rintro _ w33 ⟨r30, rfl, h31, E32⟩
  have X34 := Ext.gr X28 E32
  show wpList _ _ _ _ (fr [(.agg #[(Fl r1), (Fl r3), (Fl r5)]), (.agg #[(Fl r7), (Fl r9), (Fl r11)]), (Pt b14 0), (Pt b21 0), (Fl 0), (Pt b14 0), (Fl r1), (Pt b21 0), (Fl r7), (Fl r30), Ud, Ud, Ud, Ud, Ud, Ud, Ud, Ud, Ud, Ud, Ud, Ud]) _
  refine q_is (l' := [(.agg #[(Fl r1), (Fl r3), (Fl r5)]), (.agg #[(Fl r7), (Fl r9), (Fl r11)]), (Pt b14 0), (Pt b21 0), (Fl 0), (Pt b14 0), (Fl r1), (Pt b21 0), (Fl r7), (Fl r30), (Pt b14 1), Ud, Ud, Ud, Ud, Ud, Ud, Ud, Ud, Ud, Ud, Ud]) rfl rfl (does_fieldAddr (ev rfl) fa32_1) rfl ?_
  refine q_is (l' := [(.agg #[(Fl r1), (Fl r3), (Fl r5)]), (.agg #[(Fl r7), (Fl r9), (Fl r11)]), (Pt b14 0), (Pt b21 0), (Fl 0), (Pt b14 0), (Fl r1), (Pt b21 0), (Fl r7), (Fl r30), (Pt b14 1), (Fl r3), Ud, Ud, Ud, Ud, Ud, Ud, Ud, Ud, Ud, Ud]) rfl rfl (does_load (u := (Fl r3)) (ev rfl) Try.isAgg22 (Cells.at (Blk.cells ((hB16.ext E24).ext E32)) 1 rfl)) rfl ?_
  refine q_is (l' := [(.agg #[(Fl r1), (Fl r3), (Fl r5)]), (.agg #[(Fl r7), (Fl r9), (Fl r11)]), (Pt b14 0), (Pt b21 0), (Fl 0), (Pt b14 0), (Fl r1), (Pt b21 0), (Fl r7), (Fl r30), (Pt b14 1), (Fl r3), (Pt b21 1), Ud, Ud, Ud, Ud, Ud, Ud, Ud, Ud, Ud]) rfl rfl (does_fieldAddr (ev rfl) fa32_1) rfl ?_
  refine q_is (l' := [(.agg #[(Fl r1), (Fl r3), (Fl r5)]), (.agg #[(Fl r7), (Fl r9), (Fl r11)]), (Pt b14 0), (Pt b21 0), (Fl 0), (Pt b14 0), (Fl r1), (Pt b21 0), (Fl r7), (Fl r30), (Pt b14 1), (Fl r3), (Pt b21 1), (Fl r9), Ud, Ud, Ud, Ud, Ud, Ud, Ud, Ud]) rfl rfl (does_load (u := (Fl r9)) (ev rfl) Try.isAgg22 (Cells.at (Blk.cells (hB23.ext E32)) 1 rfl)) rfl ?_
  refine seqd rfl rfl (does_float (.inr (.inr (.inl rfl))) (ev rfl) (ev rfl)) ?_; rintro _ w38 ⟨r35, rfl, h36, E37⟩
  have X39 := Ext.gr X34 E37
  show wpList _ _ _ _ (fr [(.agg #[(Fl r1), (Fl r3), (Fl r5)]), (.agg #[(Fl r7), (Fl r9), (Fl r11)]), (Pt b14 0), (Pt b21 0), (Fl 0), (Pt b14 0), (Fl r1), (Pt b21 0), (Fl r7), (Fl r30), (Pt b14 1), (Fl r3), (Pt b21 1), (Fl r9), (Fl r35), Ud, Ud, Ud, Ud, Ud, Ud, Ud]) _
  refine seqd rfl rfl (does_float (.inl rfl) (ev rfl) (ev rfl)) ?_; rintro _ w43 ⟨r40, rfl, h41, E42⟩
  have X44 := Ext.gr X39 E42
  show wpList _ _ _ _ (fr [(.agg #[(Fl r1), (Fl r3), (Fl r5)]), (.agg #[(Fl r7), (Fl r9), (Fl r11)]), (Pt b14 0), (Pt b21 0), (Fl 0), (Pt b14 0), (Fl r1), (Pt b21 0), (Fl r7), (Fl r30), (Pt b14 1), (Fl r3), (Pt b21 1), (Fl r9), (Fl r35), (Fl r40), Ud, Ud, Ud, Ud, Ud, Ud]) _
  refine q_is (l' := [(.agg #[(Fl r1), (Fl r3), (Fl r5)]), (.agg #[(Fl r7), (Fl r9), (Fl r11)]), (Pt b14 0), (Pt b21 0), (Fl 0), (Pt b14 0), (Fl r1), (Pt b21 0), (Fl r7), (Fl r30), (Pt b14 1), (Fl r3), (Pt b21 1), (Fl r9), (Fl r35), (Fl r40), (Pt b14 2), Ud, Ud, Ud, Ud, Ud]) rfl rfl (does_fieldAddr (ev rfl) fa32_2) rfl ?_
  refine q_is (l' := [(.agg #[(Fl r1), (Fl r3), (Fl r5)]), (.agg #[(Fl r7), (Fl r9), (Fl r11)]), (Pt b14 0), (Pt b21 0), (Fl 0), (Pt b14 0), (Fl r1), (Pt b21 0), (Fl r7), (Fl r30), (Pt b14 1), (Fl r3), (Pt b21 1), (Fl r9), (Fl r35), (Fl r40), (Pt b14 2), (Fl r5), Ud, Ud, Ud, Ud]) rfl rfl (does_load (u := (Fl r5)) (ev rfl) Try.isAgg22 (Cells.at (Blk.cells ((((hB16.ext E24).ext E32).ext E37).ext E42)) 2 rfl)) rfl ?_
  refine q_is (l' := [(.agg #[(Fl r1), (Fl r3), (Fl r5)]), (.agg #[(Fl r7), (Fl r9), (Fl r11)]), (Pt b14 0), (Pt b21 0), (Fl 0), (Pt b14 0), (Fl r1), (Pt b21 0), (Fl r7), (Fl r30), (Pt b14 1), (Fl r3), (Pt b21 1), (Fl r9), (Fl r35), (Fl r40), (Pt b14 2), (Fl r5), (Pt b21 2), Ud, Ud, Ud]) rfl rfl (does_fieldAddr (ev rfl) fa32_2) rfl ?_
  refine q_is (l' := [(.agg #[(Fl r1), (Fl r3), (Fl r5)]), (.agg #[(Fl r7), (Fl r9), (Fl r11)]), (Pt b14 0), (Pt b21 0), (Fl 0), (Pt b14 0), (Fl r1), (Pt b21 0), (Fl r7), (Fl r30), (Pt b14 1), (Fl r3), (Pt b21 1), (Fl r9), (Fl r35), (Fl r40), (Pt b14 2), (Fl r5), (Pt b21 2), (Fl r11), Ud, Ud]) rfl rfl (does_load (u := (Fl r11)) (ev rfl) Try.isAgg22 (Cells.at (Blk.cells (((hB23.ext E32).ext E37).ext E42)) 2 rfl)) rfl ?_
  refine seqd rfl rfl (does_float (.inr (.inr (.inl rfl))) (ev rfl) (ev rfl)) ?_; rintro _ w48 ⟨r45, rfl, h46, E47⟩
  have X49 := Ext.gr X44 E47
  show wpList _ _ _ _ (fr [(.agg #[(Fl r1), (Fl r3), (Fl r5)]), (.agg #[(Fl r7), (Fl r9), (Fl r11)]), (Pt b14 0), (Pt b21 0), (Fl 0), (Pt b14 0), (Fl r1), (Pt b21 0), (Fl r7), (Fl r30), (Pt b14 1), (Fl r3), (Pt b21 1), (Fl r9), (Fl r35), (Fl r40), (Pt b14 2), (Fl r5), (Pt b21 2), (Fl r11), (Fl r45), Ud]) _
  refine seqd rfl rfl (does_float (.inl rfl) (ev rfl) (ev rfl)) ?_; rintro _ w53 ⟨r50, rfl, h51, E52⟩
  have X54 := Ext.gr X49 E52
  show wpList _ _ _ _ (fr [(.agg #[(Fl r1), (Fl r3), (Fl r5)]), (.agg #[(Fl r7), (Fl r9), (Fl r11)]), (Pt b14 0), (Pt b21 0), (Fl 0), (Pt b14 0), (Fl r1), (Pt b21 0), (Fl r7), (Fl r30), (Pt b14 1), (Fl r3), (Pt b21 1), (Fl r9), (Fl r35), (Fl r40), (Pt b14 2), (Fl r5), (Pt b21 2), (Fl r11), (Fl r45), (Fl r50)]) _
  refine q_is (l' := [(.agg #[(Fl r1), (Fl r3), (Fl r5)]), (.agg #[(Fl r7), (Fl r9), (Fl r11)]), (Pt b14 0), (Pt b21 0), (Fl r50), (Pt b14 0), (Fl r1), (Pt b21 0), (Fl r7), (Fl r30), (Pt b14 1), (Fl r3), (Pt b21 1), (Fl r9), (Fl r35), (Fl r40), (Pt b14 2), (Fl r5), (Pt b21 2), (Fl r11), (Fl r45), (Fl r50)]) rfl rfl (does_assign (u := (Fl r50)) (ev rfl)) rfl ?_
  refine wpList_nil (hK29 _ _ ?_)
  refine wp_ret ?_
  refine ret_val (v := (Fl r50)) (res_T rfl (slot rfl)) X54 ?_
  have x55 : cf .f32 r50 = innerF A_a A_b := by first | with_reducible rfl | (simp only [innerF, h2, h4, h6, h8, h10, h12, h31, h36, h41, h46, h51]; done) | (simp [innerF, h2, h4, h6, h8, h10, h12, h31, h36, h41, h46, h51]; done) | rfl
  exact ⟨r50, rfl, x55⟩

/- spec.l01Long -/
theorem c_spec_l01Long (v : List Value) (A_v : V3) (w : World) (hv_v : RV3 w A_v v) : Gives Try.prog 81 #[(.agg v.toArray)] w (fun v w' => ∃ r_1 : Nat, v = (Fl r_1) ∧ cf .f32 r_1 = longF A_v) := by
  obtain ⟨r1, r3, r5, rfl, h2, h4, h6⟩ := hv_v
  refine enter [(.agg #[(Fl r1), (Fl r3), (Fl r5)]), Ud, Ud, Ud, Ud, Ud, Ud] Try.func81 rfl Try.ntmps81 rfl ?_
  refine wp_seq_k fun K7 hK7 => ?_
  refine wp_region_lit ?_
  refine seqd rfl rfl (does_box (u := (.agg #[(Fl r1), (Fl r3), (Fl r5)])) (ev rfl)) ?_; rintro _ w12 ⟨b8, rfl, hb9, hB10, E11⟩
  have g13 : w.heap.size ≤ b8 := Nat.le_trans (Below.size (Ext.refl w)) hb9
  change Blk _ _ [(Fl r1), (Fl r3), (Fl r5)] at hB10
  have X14 := Ext.gr (Ext.refl w) E11
  show wpList _ _ _ _ (fr [(.agg #[(Fl r1), (Fl r3), (Fl r5)]), (Pt b8 0), Ud, Ud, Ud, Ud, Ud]) _
  refine q_is (l' := [(.agg #[(Fl r1), (Fl r3), (Fl r5)]), (Pt b8 0), (Fl 0), Ud, Ud, Ud, Ud]) rfl rfl (does_assign (u := (Fl 0)) (ev rfl)) rfl ?_
  refine wpList_nil (hK7 _ _ ?_)
  refine wp_seq_k fun K15 hK15 => ?_
  refine wp_region_lit ?_
  refine q_is (l' := [(.agg #[(Fl r1), (Fl r3), (Fl r5)]), (Pt b8 0), (Fl 0), (.agg #[(Fl r1), (Fl r3), (Fl r5)]), Ud, Ud, Ud]) rfl rfl (does_loadAgg (cs := [(Fl r1), (Fl r3), (Fl r5)]) (ev rfl) Try.isAgg32 Try.sizeOf32 (Blk.cells hB10) rfl) rfl ?_
  refine q_is (l' := [(.agg #[(Fl r1), (Fl r3), (Fl r5)]), (Pt b8 0), (Fl 0), (.agg #[(Fl r1), (Fl r3), (Fl r5)]), (.agg #[(Fl r1), (Fl r3), (Fl r5)]), Ud, Ud]) rfl rfl (does_loadAgg (cs := [(Fl r1), (Fl r3), (Fl r5)]) (ev rfl) Try.isAgg32 Try.sizeOf32 (Blk.cells hB10) rfl) rfl ?_
  refine seqd rfl rfl (does_call (args := #[(.agg #[(Fl r1), (Fl r3), (Fl r5)]), (.agg #[(Fl r1), (Fl r3), (Fl r5)])]) cal92 (evs rfl) (c_spec_l01Inner [(Fl r1), (Fl r3), (Fl r5)] A_v [(Fl r1), (Fl r3), (Fl r5)] A_v _ ⟨r1, r3, r5, rfl, h2, h4, h6⟩ ⟨r1, r3, r5, rfl, h2, h4, h6⟩)) ?_; rintro _ w17 ⟨E16, ⟨r18, rfl, h19⟩⟩
  have X20 := Ext.gr X14 E16
  show wpList _ _ _ _ (fr [(.agg #[(Fl r1), (Fl r3), (Fl r5)]), (Pt b8 0), (Fl 0), (.agg #[(Fl r1), (Fl r3), (Fl r5)]), (.agg #[(Fl r1), (Fl r3), (Fl r5)]), (Fl r18), Ud]) _
  refine seqd rfl rfl (does_call (args := #[(Fl r18)]) cal91 (evs rfl) (c_spec_l01Sqrt r18 _)) ?_; rintro _ w22 ⟨E21, ⟨r23, rfl, h24⟩⟩
  have X25 := Ext.gr X20 E21
  show wpList _ _ _ _ (fr [(.agg #[(Fl r1), (Fl r3), (Fl r5)]), (Pt b8 0), (Fl 0), (.agg #[(Fl r1), (Fl r3), (Fl r5)]), (.agg #[(Fl r1), (Fl r3), (Fl r5)]), (Fl r18), (Fl r23)]) _
  refine q_is (l' := [(.agg #[(Fl r1), (Fl r3), (Fl r5)]), (Pt b8 0), (Fl r23), (.agg #[(Fl r1), (Fl r3), (Fl r5)]), (.agg #[(Fl r1), (Fl r3), (Fl r5)]), (Fl r18), (Fl r23)]) rfl rfl (does_assign (u := (Fl r23)) (ev rfl)) rfl ?_
  refine wpList_nil (hK15 _ _ ?_)
  refine wp_ret ?_
  refine ret_val (v := (Fl r23)) (res_T rfl (slot rfl)) X25 ?_
  have x26 : cf .f32 r23 = longF A_v := by first | with_reducible rfl | (simp only [longF, h2, h4, h6, h19, h24]; done) | (simp [longF, h2, h4, h6, h19, h24]; done) | rfl
  exact ⟨r23, rfl, x26⟩

/- spec.l08Overlap -/
theorem c_spec_l08Overlap (ctr : Value) (L_ctr : List V3) (rad : Value) (L_rad : List Nat) (i_ : Int) (k_ : Int) (w : World) (hv_ctr : Sl RV3 3 w ctr L_ctr) (hv_rad : Sl RF 1 w rad L_rad) (hi0 : 0 ≤ i_ ∧ i_ < L_ctr.length) (hk0 : 0 ≤ k_ ∧ k_ < L_ctr.length) (hrl : L_rad.length = L_ctr.length) : Gives Try.prog 52 #[ctr, rad, (Iv i_), (Iv k_)] w (fun v w' => ∃ r_1 : Nat, v = (Fl r_1) ∧ cf .f32 r_1 = ovF L_ctr L_rad i_.toNat k_.toNat) := by
  have hlen_ctr := Sl.len hv_ctr; obtain ⟨p_ctr, q_ctr, rfl⟩ := Sl.shape hv_ctr
  have hlen_rad := Sl.len hv_rad; obtain ⟨p_rad, q_rad, rfl⟩ := Sl.shape hv_rad
  refine enter [(.slice p_ctr L_ctr.length q_ctr), (.slice p_rad L_rad.length q_rad), (Iv i_), (Iv k_), Ud, Ud, Ud, Ud, Ud, Ud, Ud, Ud, Ud, Ud, Ud, Ud, Ud, Ud, Ud, Ud, Ud, Ud, Ud, Ud, Ud, Ud, Ud, Ud, Ud] Try.func52 rfl Try.ntmps52 rfl ?_
  refine wp_seq_k fun K1 hK1 => ?_
  refine wp_region_lit ?_
  refine q_is rfl rfl (does_assign (u := (Fl 0)) (ev rfl)) (by dsimp only [List.set]; try rfl) ?_
  refine wpList_nil (hK1 _ _ ?_)
  refine wp_seq_k fun K2 hK2 => ?_
  obtain ⟨el1, hel1⟩ : ∃ e, L_rad[i_.toNat]? = some e := ⟨_, List.getElem?_eq_getElem (by omega)⟩
  obtain ⟨el2, hel2⟩ : ∃ e, L_rad[k_.toNat]? = some e := ⟨_, List.getElem?_eq_getElem (by omega)⟩
  obtain ⟨el3, hel3⟩ : ∃ e, L_ctr[k_.toNat]? = some e := ⟨_, List.getElem?_eq_getElem (by omega)⟩
  obtain ⟨el4, hel4⟩ : ∃ e, L_ctr[i_.toNat]? = some e := ⟨_, List.getElem?_eq_getElem (by omega)⟩
  refine region_draw (
    [Fact.pure [] (fun v => v = (.slice p_rad L_rad.length q_rad)),
    Fact.pure [] (fun v => v = (Iv i_)),
    Fact.mem [9, 10] (fun v w' => PtrR RF w' v el1) (by intro v w1 w2 hx h; exact h.ext RF.mono hx),
    Fact.pure [11] (fun v => ∃ r_1 : Nat, v = (Fl r_1) ∧ cf .f32 r_1 = el1),
    Fact.pure [] (fun v => v = (.slice p_rad L_rad.length q_rad)),
    Fact.pure [] (fun v => v = (Iv k_)),
    Fact.mem [13, 14] (fun v w' => PtrR RF w' v el2) (by intro v w1 w2 hx h; exact h.ext RF.mono hx),
    Fact.pure [15] (fun v => ∃ r_1 : Nat, v = (Fl r_1) ∧ cf .f32 r_1 = el2),
    Fact.pure [12, 16] (fun v => ∃ r_1 : Nat, v = (Fl r_1) ∧ cf .f32 r_1 = fop .add .f32 el1 el2),
    Fact.pure [] (fun v => v = (.slice p_ctr L_ctr.length q_ctr)),
    Fact.pure [] (fun v => v = (Iv k_)),
    Fact.mem [18, 19] (fun v w' => PtrR RV3 w' v el3) (by intro v w1 w2 hx h; exact h.ext RV3.mono hx),
    Fact.pure [20] (fun v => ∃ cs_1 : List Value, v = (.agg cs_1.toArray) ∧ RV3 w el3 cs_1),
    Fact.pure [] (fun v => v = (.slice p_ctr L_ctr.length q_ctr)),
    Fact.pure [] (fun v => v = (Iv i_)),
    Fact.mem [22, 23] (fun v w' => PtrR RV3 w' v el4) (by intro v w1 w2 hx h; exact h.ext RV3.mono hx),
    Fact.pure [24] (fun v => ∃ cs_1 : List Value, v = (.agg cs_1.toArray) ∧ RV3 w el4 cs_1),
    Fact.pure [21, 25] (fun v => ∃ cs_1 : List Value, v = (.agg cs_1.toArray) ∧ RV3 w (vsub el3 el4) cs_1),
    Fact.pure [26] (fun v => ∃ r_1 : Nat, v = (Fl r_1) ∧ cf .f32 r_1 = longF (vsub el3 el4)),
    Fact.pure [17, 27] (fun v => ∃ r_1 : Nat, v = (Fl r_1) ∧ cf .f32 r_1 = fop .sub .f32 (fop .add .f32 el1 el2) (longF (vsub el3 el4)))]) mixed (by kernel_rfl) (by intro _ _ d _ _ h; cases d <;> exact h) ?_
  obtain ⟨w3, hw5⟩ : ∃ w', w' = World.drew w := ⟨_, rfl⟩; rw [← hw5]; have E4 : Ext w w3 := by rw [hw5]; exact Ext.draw _
  clear hw5
  have X6 := Ext.gr (Ext.refl w) E4
  refine RW_d _ rfl (fun v => by dsimp only [List.set]; try rfl) (fun u hu hF => ?_) (fun v7 => ?_)
  · clear hF
    refine doesG_un rfl ?_
    refine (does_move (u := (.slice p_rad L_rad.length q_rad)) (ev rfl)).mono ?_; rintro _ _ ⟨rfl, rfl⟩
    exact ⟨rfl, Ext.refl _⟩
  refine RW_d _ rfl (fun v => by dsimp only [List.set]; try rfl) (fun u hu hF => ?_) (fun v8 => ?_)
  · clear hF
    refine doesG_un rfl ?_
    refine (does_move (u := (Iv i_)) (ev rfl)).mono ?_; rintro _ _ ⟨rfl, rfl⟩
    exact ⟨rfl, Ext.refl _⟩
  refine RW_d _ rfl (fun v => by dsimp only [List.set]; try rfl) (fun u hu hF => ?_) (fun v9 => ?_)
  · have h9_ : v7 = (.slice p_rad L_rad.length q_rad) := hF.1
    have h10_ : v8 = (Iv i_) := hF.2.1
    clear hF
    refine doesG_un rfl ?_
    obtain rfl := h9_
    obtain rfl := h10_
    refine (does_indexSl (R := RF) (i := i_) (xs := L_rad) (e := el1) Try.underlying25 Try.sizeOf22 (ev rfl) (ev rfl) (Sl.ext (Sl.ext hv_rad RF.mono (Ext.gr (Ext.refl w) E4)) RF.mono hu) (by omega) hel1).mono ?_; rintro v u' ⟨b, of, cs, hv, hc, hR, hu'⟩; subst hu'
    exact ⟨⟨b, of, cs, hv, hc, hR⟩, Ext.refl _⟩
  refine RW_d _ rfl (fun v => by dsimp only [List.set]; try rfl) (fun u hu hF => ?_) (fun v10 => ?_)
  · have h11_ : PtrR RF u v9 el1 := hF.1
    clear hF
    refine doesG_un rfl ?_
    obtain ⟨b11_, o11_, _, rfl, hc11_, ⟨r11_1, rfl, h11_2⟩⟩ := h11_
    refine (does_load (u := (Fl r11_1)) (ev rfl) Try.isAgg22 (Cells.at hc11_ 0 rfl)).mono ?_; rintro _ _ ⟨rfl, rfl⟩
    exact ⟨⟨r11_1, rfl, (by simp only [h11_2])⟩, Ext.refl _⟩
  refine RW_d _ rfl (fun v => by dsimp only [List.set]; try rfl) (fun u hu hF => ?_) (fun v11 => ?_)
  · clear hF
    refine doesG_un rfl ?_
    refine (does_move (u := (.slice p_rad L_rad.length q_rad)) (ev rfl)).mono ?_; rintro _ _ ⟨rfl, rfl⟩
    exact ⟨rfl, Ext.refl _⟩
  refine RW_d _ rfl (fun v => by dsimp only [List.set]; try rfl) (fun u hu hF => ?_) (fun v12 => ?_)
  · clear hF
    refine doesG_un rfl ?_
    refine (does_move (u := (Iv k_)) (ev rfl)).mono ?_; rintro _ _ ⟨rfl, rfl⟩
    exact ⟨rfl, Ext.refl _⟩
  refine RW_d _ rfl (fun v => by dsimp only [List.set]; try rfl) (fun u hu hF => ?_) (fun v13 => ?_)
  · have h13_ : v11 = (.slice p_rad L_rad.length q_rad) := hF.1
    have h14_ : v12 = (Iv k_) := hF.2.1
    clear hF
    refine doesG_un rfl ?_
    obtain rfl := h13_
    obtain rfl := h14_
    refine (does_indexSl (R := RF) (i := k_) (xs := L_rad) (e := el2) Try.underlying25 Try.sizeOf22 (ev rfl) (ev rfl) (Sl.ext (Sl.ext hv_rad RF.mono (Ext.gr (Ext.refl w) E4)) RF.mono hu) (by omega) hel2).mono ?_; rintro v u' ⟨b, of, cs, hv, hc, hR, hu'⟩; subst hu'
    exact ⟨⟨b, of, cs, hv, hc, hR⟩, Ext.refl _⟩
  refine RW_d _ rfl (fun v => by dsimp only [List.set]; try rfl) (fun u hu hF => ?_) (fun v14 => ?_)
  · have h15_ : PtrR RF u v13 el2 := hF.1
    clear hF
    refine doesG_un rfl ?_
    obtain ⟨b15_, o15_, _, rfl, hc15_, ⟨r15_1, rfl, h15_2⟩⟩ := h15_
    refine (does_load (u := (Fl r15_1)) (ev rfl) Try.isAgg22 (Cells.at hc15_ 0 rfl)).mono ?_; rintro _ _ ⟨rfl, rfl⟩
    exact ⟨⟨r15_1, rfl, (by simp only [h15_2])⟩, Ext.refl _⟩
  refine RW_d _ rfl (fun v => by dsimp only [List.set]; try rfl) (fun u hu hF => ?_) (fun v15 => ?_)
  · have h12_ : ∃ r_1 : Nat, v10 = (Fl r_1) ∧ cf .f32 r_1 = el1 := hF.1
    have h16_ : ∃ r_1 : Nat, v14 = (Fl r_1) ∧ cf .f32 r_1 = el2 := hF.2.1
    clear hF
    refine doesG_un rfl ?_
    obtain ⟨r12_1, rfl, h12_2⟩ := h12_
    obtain ⟨r16_1, rfl, h16_2⟩ := h16_
    refine (does_float (.inl rfl) (ev rfl) (ev rfl)).mono ?_; rintro _ _ ⟨r, rfl, hr, hx⟩
    exact ⟨⟨r, rfl, (by simp only [hr, h12_2, h16_2])⟩, hx⟩
  refine RW_d _ rfl (fun v => by dsimp only [List.set]; try rfl) (fun u hu hF => ?_) (fun v16 => ?_)
  · clear hF
    refine doesG_un rfl ?_
    refine (does_move (u := (.slice p_ctr L_ctr.length q_ctr)) (ev rfl)).mono ?_; rintro _ _ ⟨rfl, rfl⟩
    exact ⟨rfl, Ext.refl _⟩
  refine RW_d _ rfl (fun v => by dsimp only [List.set]; try rfl) (fun u hu hF => ?_) (fun v17 => ?_)
  · clear hF
    refine doesG_un rfl ?_
    refine (does_move (u := (Iv k_)) (ev rfl)).mono ?_; rintro _ _ ⟨rfl, rfl⟩
    exact ⟨rfl, Ext.refl _⟩
  refine RW_d _ rfl (fun v => by dsimp only [List.set]; try rfl) (fun u hu hF => ?_) (fun v18 => ?_)
  · have h18_ : v16 = (.slice p_ctr L_ctr.length q_ctr) := hF.1
    have h19_ : v17 = (Iv k_) := hF.2.1
    clear hF
    refine doesG_un rfl ?_
    obtain rfl := h18_
    obtain rfl := h19_
    refine (does_indexSl (R := RV3) (i := k_) (xs := L_ctr) (e := el3) Try.underlying47 Try.sizeOf32 (ev rfl) (ev rfl) (Sl.ext (Sl.ext hv_ctr RV3.mono (Ext.gr (Ext.refl w) E4)) RV3.mono hu) (by omega) hel3).mono ?_; rintro v u' ⟨b, of, cs, hv, hc, hR, hu'⟩; subst hu'
    exact ⟨⟨b, of, cs, hv, hc, hR⟩, Ext.refl _⟩
  refine RW_d _ rfl (fun v => by dsimp only [List.set]; try rfl) (fun u hu hF => ?_) (fun v19 => ?_)
  · have h20_ : PtrR RV3 u v18 el3 := hF.1
    clear hF
    refine doesG_un rfl ?_
    obtain ⟨b20_, o20_, _, rfl, hc20_, ⟨r20_1, r20_3, r20_5, rfl, h20_2, h20_4, h20_6⟩⟩ := h20_
    refine (does_loadAgg (cs := [(Fl r20_1), (Fl r20_3), (Fl r20_5)]) (ev rfl) Try.isAgg32 Try.sizeOf32 hc20_ rfl).mono ?_; rintro _ _ ⟨rfl, rfl⟩
    exact ⟨⟨[(Fl r20_1), (Fl r20_3), (Fl r20_5)], rfl, ⟨r20_1, r20_3, r20_5, rfl, (by first | assumption | rfl), (by first | assumption | rfl), (by first | assumption | rfl)⟩⟩, Ext.refl _⟩
  refine RW_d _ rfl (fun v => by dsimp only [List.set]; try rfl) (fun u hu hF => ?_) (fun v20 => ?_)
  · clear hF
    refine doesG_un rfl ?_
    refine (does_move (u := (.slice p_ctr L_ctr.length q_ctr)) (ev rfl)).mono ?_; rintro _ _ ⟨rfl, rfl⟩
    exact ⟨rfl, Ext.refl _⟩
  refine RW_d _ rfl (fun v => by dsimp only [List.set]; try rfl) (fun u hu hF => ?_) (fun v21 => ?_)
  · clear hF
    refine doesG_un rfl ?_
    refine (does_move (u := (Iv i_)) (ev rfl)).mono ?_; rintro _ _ ⟨rfl, rfl⟩
    exact ⟨rfl, Ext.refl _⟩
  refine RW_d _ rfl (fun v => by dsimp only [List.set]; try rfl) (fun u hu hF => ?_) (fun v22 => ?_)
  · have h22_ : v20 = (.slice p_ctr L_ctr.length q_ctr) := hF.1
    have h23_ : v21 = (Iv i_) := hF.2.1
    clear hF
    refine doesG_un rfl ?_
    obtain rfl := h22_
    obtain rfl := h23_
    refine (does_indexSl (R := RV3) (i := i_) (xs := L_ctr) (e := el4) Try.underlying47 Try.sizeOf32 (ev rfl) (ev rfl) (Sl.ext (Sl.ext hv_ctr RV3.mono (Ext.gr (Ext.refl w) E4)) RV3.mono hu) (by omega) hel4).mono ?_; rintro v u' ⟨b, of, cs, hv, hc, hR, hu'⟩; subst hu'
    exact ⟨⟨b, of, cs, hv, hc, hR⟩, Ext.refl _⟩
  refine RW_d _ rfl (fun v => by dsimp only [List.set]; try rfl) (fun u hu hF => ?_) (fun v23 => ?_)
  · have h24_ : PtrR RV3 u v22 el4 := hF.1
    clear hF
    refine doesG_un rfl ?_
    obtain ⟨b24_, o24_, _, rfl, hc24_, ⟨r24_1, r24_3, r24_5, rfl, h24_2, h24_4, h24_6⟩⟩ := h24_
    refine (does_loadAgg (cs := [(Fl r24_1), (Fl r24_3), (Fl r24_5)]) (ev rfl) Try.isAgg32 Try.sizeOf32 hc24_ rfl).mono ?_; rintro _ _ ⟨rfl, rfl⟩
    exact ⟨⟨[(Fl r24_1), (Fl r24_3), (Fl r24_5)], rfl, ⟨r24_1, r24_3, r24_5, rfl, (by first | assumption | rfl), (by first | assumption | rfl), (by first | assumption | rfl)⟩⟩, Ext.refl _⟩
  refine RW_d _ rfl (fun v => by dsimp only [List.set]; try rfl) (fun u hu hF => ?_) (fun v24 => ?_)
  · have h21_ : ∃ cs_1 : List Value, v19 = (.agg cs_1.toArray) ∧ RV3 w el3 cs_1 := hF.1
    have h25_ : ∃ cs_1 : List Value, v23 = (.agg cs_1.toArray) ∧ RV3 w el4 cs_1 := hF.2.1
    clear hF
    refine doesG_un rfl ?_
    obtain ⟨_, rfl, ⟨r21_1, r21_3, r21_5, rfl, h21_2, h21_4, h21_6⟩⟩ := h21_
    obtain ⟨_, rfl, ⟨r25_1, r25_3, r25_5, rfl, h25_2, h25_4, h25_6⟩⟩ := h25_
    refine (does_call (args := #[(.agg #[(Fl r21_1), (Fl r21_3), (Fl r21_5)]), (.agg #[(Fl r25_1), (Fl r25_3), (Fl r25_5)])]) cal54 (evs rfl) (c_spec_l01Less [(Fl r21_1), (Fl r21_3), (Fl r21_5)] el3 [(Fl r25_1), (Fl r25_3), (Fl r25_5)] el4 _ ⟨r21_1, r21_3, r21_5, rfl, (by assumption), (by assumption), (by assumption)⟩ ⟨r25_1, r25_3, r25_5, rfl, (by assumption), (by assumption), (by assumption)⟩)).mono ?_; rintro v u' ⟨hx, ⟨csn1, hv, k0⟩⟩
    exact ⟨⟨csn1, hv.trans (by simp only [h21_2, h21_4, h21_6, h25_2, h25_4, h25_6]), (by first | exact k0 | simpa only [h21_2, h21_4, h21_6, h25_2, h25_4, h25_6] using RV3.any (w := w) k0)⟩, hx⟩
  refine RW_d _ rfl (fun v => by dsimp only [List.set]; try rfl) (fun u hu hF => ?_) (fun v25 => ?_)
  · have h26_ : ∃ cs_1 : List Value, v24 = (.agg cs_1.toArray) ∧ RV3 w (vsub el3 el4) cs_1 := hF.1
    clear hF
    refine doesG_un rfl ?_
    obtain ⟨_, rfl, ⟨r26_1, r26_3, r26_5, rfl, h26_2, h26_4, h26_6⟩⟩ := h26_
    refine (does_call (args := #[(.agg #[(Fl r26_1), (Fl r26_3), (Fl r26_5)])]) cal81 (evs rfl) (c_spec_l01Long [(Fl r26_1), (Fl r26_3), (Fl r26_5)] (vsub el3 el4) _ ⟨r26_1, r26_3, r26_5, rfl, (by assumption), (by assumption), (by assumption)⟩)).mono ?_; rintro v u' ⟨hx, ⟨rn1, hv, k0⟩⟩
    exact ⟨⟨rn1, hv.trans (by simp only [h26_2, h26_4, h26_6]), (by simp only [k0, h26_2, h26_4, h26_6])⟩, hx⟩
  refine RW_d _ rfl (fun v => by dsimp only [List.set]; try rfl) (fun u hu hF => ?_) (fun v26 => ?_)
  · have h17_ : ∃ r_1 : Nat, v15 = (Fl r_1) ∧ cf .f32 r_1 = fop .add .f32 el1 el2 := hF.1
    have h27_ : ∃ r_1 : Nat, v25 = (Fl r_1) ∧ cf .f32 r_1 = longF (vsub el3 el4) := hF.2.1
    clear hF
    refine doesG_un rfl ?_
    obtain ⟨r17_1, rfl, h17_2⟩ := h17_
    obtain ⟨r27_1, rfl, h27_2⟩ := h27_
    refine (does_float (.inr (.inl rfl)) (ev rfl) (ev rfl)).mono ?_; rintro _ _ ⟨r, rfl, hr, hx⟩
    exact ⟨⟨r, rfl, (by simp only [hr, h17_2, h27_2])⟩, hx⟩
  refine RW_fin ?_; intro w27 E28 hP29
  obtain ⟨⟨⟨⟨⟨⟨⟨⟨⟨⟨⟨⟨⟨⟨⟨⟨⟨⟨⟨⟨-, -⟩, -⟩, -⟩, -⟩, -⟩, -⟩, -⟩, -⟩, -⟩, -⟩, -⟩, -⟩, -⟩, -⟩, -⟩, -⟩, -⟩, -⟩, -⟩, q30⟩ := hP29
  have X31 := Ext.gr X6 E28
  have q30 : ∃ r_1 : Nat, v26 = (Fl r_1) ∧ cf .f32 r_1 = fop .sub .f32 (fop .add .f32 el1 el2) (longF (vsub el3 el4)) := q30
  obtain ⟨r32, rfl, h33⟩ := q30
  show wpList _ _ _ _ (fr [_, _, _, _, _, _, _, _, _, _, _, _, _, _, _, _, _, _, _, _, _, _, _, _, _, _, _, _, _]) _
  refine q_is rfl rfl (does_assign (u := (Fl r32)) (ev rfl)) (by dsimp only [List.set]; try rfl) ?_
  refine wpList_nil (hK2 _ _ ?_)
  refine wp_ret ?_
  refine ret_val (v := (Fl r32)) (res_T rfl (slot rfl)) X31 ?_
  have x34 : cf .f32 r32 = ovF L_ctr L_rad i_.toNat k_.toNat := by first | with_reducible rfl | (simp only [ovF, Option.getD_some, hel1, hel2, hel3, hel4, h33]; done) | (simp [ovF, Option.getD_some, hel1, hel2, hel3, hel4, h33]; done) | rfl
  exact ⟨r32, rfl, x34⟩

/- spec.l01Scale -/
theorem c_spec_l01Scale (a : List Value) (A_a : V3) (b : Nat) (w : World) (hv_a : RV3 w A_a a) : Gives Try.prog 55 #[(.agg a.toArray), (Fl b)] w (fun v w' => ∃ cs_1 : List Value, v = (.agg cs_1.toArray) ∧ RV3 w (vscale A_a (cf .f32 b)) cs_1) := by
  obtain ⟨r1, r3, r5, rfl, h2, h4, h6⟩ := hv_a
  refine enter [(.agg #[(Fl r1), (Fl r3), (Fl r5)]), (Fl b), Ud, Ud, Ud, Ud, Ud, Ud, Ud, Ud, Ud, Ud, Ud, Ud, Ud, Ud, Ud, Ud] Try.func55 rfl Try.ntmps55 rfl ?_
  refine wp_seq_k fun K7 hK7 => ?_
  refine wp_region_lit ?_
  refine seqd rfl rfl (does_box (u := (.agg #[(Fl r1), (Fl r3), (Fl r5)])) (ev rfl)) ?_; rintro _ w12 ⟨b8, rfl, hb9, hB10, E11⟩
  have g13 : w.heap.size ≤ b8 := Nat.le_trans (Below.size (Ext.refl w)) hb9
  change Blk _ _ [(Fl r1), (Fl r3), (Fl r5)] at hB10
  have X14 := Ext.gr (Ext.refl w) E11
  show wpList _ _ _ _ (fr [(.agg #[(Fl r1), (Fl r3), (Fl r5)]), (Fl b), (Pt b8 0), Ud, Ud, Ud, Ud, Ud, Ud, Ud, Ud, Ud, Ud, Ud, Ud, Ud, Ud, Ud]) _
  refine seqd rfl rfl (does_alloc z32) ?_; rintro _ w19 ⟨b15, rfl, hb16, hB17, E18⟩
  have n20 : b8 < b15 := Nat.lt_of_lt_of_le (Blk.lt hB10) hb16
  have g21 : w.heap.size ≤ b15 := Nat.le_trans (Below.size X14) hb16
  change Blk _ _ [(Fl 0), (Fl 0), (Fl 0)] at hB17
  have X22 := Ext.gr X14 E18
  show wpList _ _ _ _ (fr [(.agg #[(Fl r1), (Fl r3), (Fl r5)]), (Fl b), (Pt b8 0), Ud, (Pt b15 0), Ud, Ud, Ud, Ud, Ud, Ud, Ud, Ud, Ud, Ud, Ud, Ud, Ud]) _
  refine wpList_nil (hK7 _ _ ?_)
  refine wp_seq_k fun K23 hK23 => ?_
  refine wp_region_lit ?_
  refine q_is (l' := [(.agg #[(Fl r1), (Fl r3), (Fl r5)]), (Fl b), (Pt b8 0), Ud, (Pt b15 0), (Pt b8 0), Ud, Ud, Ud, Ud, Ud, Ud, Ud, Ud, Ud, Ud, Ud, Ud]) rfl rfl (does_fieldAddr (ev rfl) fa32_0) rfl ?_
  refine q_is (l' := [(.agg #[(Fl r1), (Fl r3), (Fl r5)]), (Fl b), (Pt b8 0), Ud, (Pt b15 0), (Pt b8 0), (Fl r1), Ud, Ud, Ud, Ud, Ud, Ud, Ud, Ud, Ud, Ud, Ud]) rfl rfl (does_load (u := (Fl r1)) (ev rfl) Try.isAgg22 (Cells.at (Blk.cells (hB10.ext E18)) 0 rfl)) rfl ?_
  refine q_is (l' := [(.agg #[(Fl r1), (Fl r3), (Fl r5)]), (Fl b), (Pt b8 0), Ud, (Pt b15 0), (Pt b8 0), (Fl r1), (Fl b), Ud, Ud, Ud, Ud, Ud, Ud, Ud, Ud, Ud, Ud]) rfl rfl (does_move (u := (Fl b)) (ev rfl)) rfl ?_
  refine seqd rfl rfl (does_float (.inr (.inr (.inl rfl))) (ev rfl) (ev rfl)) ?_; rintro _ w27 ⟨r24, rfl, h25, E26⟩
  have X28 := Ext.gr X22 E26
  show wpList _ _ _ _ (fr [(.agg #[(Fl r1), (Fl r3), (Fl r5)]), (Fl b), (Pt b8 0), Ud, (Pt b15 0), (Pt b8 0), (Fl r1), (Fl b), (Fl r24), Ud, Ud, Ud, Ud, Ud, Ud, Ud, Ud, Ud]) _
  refine q_is (l' := [(.agg #[(Fl r1), (Fl r3), (Fl r5)]), (Fl b), (Pt b8 0), Ud, (Pt b15 0), (Pt b8 0), (Fl r1), (Fl b), (Fl r24), (Pt b8 1), Ud, Ud, Ud, Ud, Ud, Ud, Ud, Ud]) rfl rfl (does_fieldAddr (ev rfl) fa32_1) rfl ?_
  refine q_is (l' := [(.agg #[(Fl r1), (Fl r3), (Fl r5)]), (Fl b), (Pt b8 0), Ud, (Pt b15 0), (Pt b8 0), (Fl r1), (Fl b), (Fl r24), (Pt b8 1), (Fl r3), Ud, Ud, Ud, Ud, Ud, Ud, Ud]) rfl rfl (does_load (u := (Fl r3)) (ev rfl) Try.isAgg22 (Cells.at (Blk.cells ((hB10.ext E18).ext E26)) 1 rfl)) rfl ?_
  refine q_is (l' := [(.agg #[(Fl r1), (Fl r3), (Fl r5)]), (Fl b), (Pt b8 0), Ud, (Pt b15 0), (Pt b8 0), (Fl r1), (Fl b), (Fl r24), (Pt b8 1), (Fl r3), (Fl b), Ud, Ud, Ud, Ud, Ud, Ud]) rfl rfl (does_move (u := (Fl b)) (ev rfl)) rfl ?_
  refine seqd rfl rfl (does_float (.inr (.inr (.inl rfl))) (ev rfl) (ev rfl)) ?_; rintro _ w32 ⟨r29, rfl, h30, E31⟩
  have X33 := Ext.gr X28 E31
  show wpList _ _ _ _ (fr [(.agg #[(Fl r1), (Fl r3), (Fl r5)]), (Fl b), (Pt b8 0), Ud, (Pt b15 0), (Pt b8 0), (Fl r1), (Fl b), (Fl r24), (Pt b8 1), (Fl r3), (Fl b), (Fl r29), Ud, Ud, Ud, Ud, Ud]) _
  refine q_is (l' := [(.agg #[(Fl r1), (Fl r3), (Fl r5)]), (Fl b), (Pt b8 0), Ud, (Pt b15 0), (Pt b8 0), (Fl r1), (Fl b), (Fl r24), (Pt b8 1), (Fl r3), (Fl b), (Fl r29), (Pt b8 2), Ud, Ud, Ud, Ud]) rfl rfl (does_fieldAddr (ev rfl) fa32_2) rfl ?_
  refine q_is (l' := [(.agg #[(Fl r1), (Fl r3), (Fl r5)]), (Fl b), (Pt b8 0), Ud, (Pt b15 0), (Pt b8 0), (Fl r1), (Fl b), (Fl r24), (Pt b8 1), (Fl r3), (Fl b), (Fl r29), (Pt b8 2), (Fl r5), Ud, Ud, Ud]) rfl rfl (does_load (u := (Fl r5)) (ev rfl) Try.isAgg22 (Cells.at (Blk.cells (((hB10.ext E18).ext E26).ext E31)) 2 rfl)) rfl ?_
  refine q_is (l' := [(.agg #[(Fl r1), (Fl r3), (Fl r5)]), (Fl b), (Pt b8 0), Ud, (Pt b15 0), (Pt b8 0), (Fl r1), (Fl b), (Fl r24), (Pt b8 1), (Fl r3), (Fl b), (Fl r29), (Pt b8 2), (Fl r5), (Fl b), Ud, Ud]) rfl rfl (does_move (u := (Fl b)) (ev rfl)) rfl ?_
  refine seqd rfl rfl (does_float (.inr (.inr (.inl rfl))) (ev rfl) (ev rfl)) ?_; rintro _ w37 ⟨r34, rfl, h35, E36⟩
  have X38 := Ext.gr X33 E36
  show wpList _ _ _ _ (fr [(.agg #[(Fl r1), (Fl r3), (Fl r5)]), (Fl b), (Pt b8 0), Ud, (Pt b15 0), (Pt b8 0), (Fl r1), (Fl b), (Fl r24), (Pt b8 1), (Fl r3), (Fl b), (Fl r29), (Pt b8 2), (Fl r5), (Fl b), (Fl r34), Ud]) _
  refine q_is (l' := [(.agg #[(Fl r1), (Fl r3), (Fl r5)]), (Fl b), (Pt b8 0), Ud, (Pt b15 0), (Pt b8 0), (Fl r1), (Fl b), (Fl r24), (Pt b8 1), (Fl r3), (Fl b), (Fl r29), (Pt b8 2), (Fl r5), (Fl b), (Fl r34), (.agg #[(Fl r24), (Fl r29), (Fl r34)])]) rfl rfl (does_build (parts' := [(0, (Fl r24)), (1, (Fl r29)), (2, (Fl r34))]) (cells := #[(Fl r24), (Fl r29), (Fl r34)]) (evp rfl) (by kernel_rfl)) rfl ?_
  refine seqn rfl rfl (does_store (n := 3) (cs := [(Fl 0), (Fl 0), (Fl 0)]) (u := (.agg #[(Fl r24), (Fl r29), (Fl r34)])) (ev rfl) (ev rfl) Try.sizeOf32 rfl (((hB17.ext E26).ext E31).ext E36) (Nat.le_of_ble_eq_true rfl) rfl) ?_; rintro _ w41 ⟨rfl, W39, hB40⟩
  change Blk _ _ [(Fl r24), (Fl r29), (Fl r34)] at hB40
  have X42 := Below.wr X38 W39 g21
  refine wpList_nil (hK23 _ _ ?_)
  refine wp_ret ?_
  refine ret_val (v := (.agg #[(Fl r24), (Fl r29), (Fl r34)])) (res_C rfl (slot rfl) (run_loadAgg (cs := [(Fl r24), (Fl r29), (Fl r34)]) Try.isAgg32 Try.sizeOf32 (Blk.cells hB40) rfl)) X42 ?_
  have x43 : cf .f32 r24 = (vscale A_a (cf .f32 b)).x := by first | with_reducible rfl | (simp only [vscale, h2, h4, h6, h25, h30, h35]; done) | (simp [vscale, h2, h4, h6, h25, h30, h35]; done) | rfl
  have x44 : cf .f32 r29 = (vscale A_a (cf .f32 b)).y := by first | with_reducible rfl | (simp only [vscale, h2, h4, h6, h25, h30, h35]; done) | (simp [vscale, h2, h4, h6, h25, h30, h35]; done) | rfl
  have x45 : cf .f32 r34 = (vscale A_a (cf .f32 b)).z := by first | with_reducible rfl | (simp only [vscale, h2, h4, h6, h25, h30, h35]; done) | (simp [vscale, h2, h4, h6, h25, h30, h35]; done) | rfl
  exact ⟨[(Fl r24), (Fl r29), (Fl r34)], rfl, ⟨r24, r29, r34, rfl, x43, x44, x45⟩⟩

/- spec.l03Unit -/
theorem c_spec_l03Unit (v : List Value) (A_v : V3) (w : World) (hv_v : RV3 w A_v v) : Gives Try.prog 53 #[(.agg v.toArray)] w (fun v w' => ∃ cs_1 : List Value, v = (.agg cs_1.toArray) ∧ RV3 w (unitF A_v) cs_1) := by
  obtain ⟨r1, r3, r5, rfl, h2, h4, h6⟩ := hv_v
  refine enter [(.agg #[(Fl r1), (Fl r3), (Fl r5)]), Ud, Ud, Ud, Ud, Ud, Ud, Ud, Ud, Ud, Ud, Ud, Ud, Ud, Ud, Ud, Ud, Ud, Ud, Ud, Ud, Ud, Ud, Ud, Ud] Try.func53 rfl Try.ntmps53 rfl ?_
  refine wp_seq_k fun K7 hK7 => ?_
  refine wp_region_lit ?_
  refine seqd rfl rfl (does_box (u := (.agg #[(Fl r1), (Fl r3), (Fl r5)])) (ev rfl)) ?_; rintro _ w12 ⟨b8, rfl, hb9, hB10, E11⟩
  have g13 : w.heap.size ≤ b8 := Nat.le_trans (Below.size (Ext.refl w)) hb9
  change Blk _ _ [(Fl r1), (Fl r3), (Fl r5)] at hB10
  have X14 := Ext.gr (Ext.refl w) E11
  show wpList _ _ _ _ (fr [_, _, _, _, _, _, _, _, _, _, _, _, _, _, _, _, _, _, _, _, _, _, _, _, _]) _
  refine seqd rfl rfl (does_alloc z32) ?_; rintro _ w19 ⟨b15, rfl, hb16, hB17, E18⟩
  have n20 : b8 < b15 := Nat.lt_of_lt_of_le (Blk.lt hB10) hb16
  have g21 : w.heap.size ≤ b15 := Nat.le_trans (Below.size X14) hb16
  change Blk _ _ [(Fl 0), (Fl 0), (Fl 0)] at hB17
  have X22 := Ext.gr X14 E18
  show wpList _ _ _ _ (fr [_, _, _, _, _, _, _, _, _, _, _, _, _, _, _, _, _, _, _, _, _, _, _, _, _]) _
  refine wpList_nil (hK7 _ _ ?_)
  refine wp_seq_k fun K23 hK23 => ?_
  refine wp_region_lit ?_
  refine q_is rfl rfl (does_loadAgg (cs := [(Fl r1), (Fl r3), (Fl r5)]) (ev rfl) Try.isAgg32 Try.sizeOf32 (Blk.cells (hB10.ext E18)) rfl) (by dsimp only [List.set]; try rfl) ?_
  refine seqd rfl rfl (does_call (args := #[(.agg #[(Fl r1), (Fl r3), (Fl r5)])]) cal81 (evs rfl) (c_spec_l01Long [(Fl r1), (Fl r3), (Fl r5)] A_v _ ⟨r1, r3, r5, rfl, h2, h4, h6⟩)) ?_; rintro _ w25 ⟨E24, ⟨r26, rfl, h27⟩⟩
  have X28 := Ext.gr X22 E24
  show wpList _ _ _ _ (fr [_, _, _, _, _, _, _, _, _, _, _, _, _, _, _, _, _, _, _, _, _, _, _, _, _]) _
  refine q_is rfl rfl (does_assign (u := (Fl r26)) (ev rfl)) (by dsimp only [List.set]; try rfl) ?_
  refine wpList_nil (hK23 _ _ ?_)
  refine wp_seq_k fun K29 hK29 => ?_
  refine wp_region_lit ?_
  refine q_is rfl rfl (does_move (u := (Fl r26)) (ev rfl)) (by dsimp only [List.set]; try rfl) ?_
  refine seqd rfl rfl (does_float (.inr (.inr (.inr rfl))) (ev rfl) (ev rfl)) ?_; rintro _ w33 ⟨r30, rfl, h31, E32⟩
  have X34 := Ext.gr X28 E32
  show wpList _ _ _ _ (fr [_, _, _, _, _, _, _, _, _, _, _, _, _, _, _, _, _, _, _, _, _, _, _, _, _]) _
  refine q_is rfl rfl (does_assign (u := (Fl r30)) (ev rfl)) (by dsimp only [List.set]; try rfl) ?_
  refine wpList_nil (hK29 _ _ ?_)
  refine wp_seq_k fun K35 hK35 => ?_
  refine wp_seq_k fun K36 hK36 => ?_
  obtain ⟨β1, hβ1⟩ : ∃ b : Bool, b = (fcmp .eql (ford .f32 (cf .f32 r26) (cf .f32 0))) := ⟨_, rfl⟩
  obtain ⟨β2, hβ2⟩ : ∃ b : Bool, b = (β1 || (!(finF (cf .f32 r26)))) := ⟨_, rfl⟩
  obtain ⟨β3, hβ3⟩ : ∃ b : Bool, b = (β2 || (!(finF (cf .f32 r30)))) := ⟨_, rfl⟩
  refine region_text (
    [Fact.pure [] (fun v => v = (Fl r26)),
    Fact.pure [9] (fun v => v = (Bo β1)),
    Fact.pure [10] (fun v => v = (Bo β1)),
    Fact.pure [11] (fun v => β1 = false → v = (Fl r26)),
    Fact.pure [12, 11] (fun v => β1 = false → v = (Bo (finF (cf .f32 r26)))),
    Fact.pure [13, 11] (fun v => β1 = false → v = (Bo (!(finF (cf .f32 r26))))),
    Fact.pure [11, 14] (fun v => v = (Bo β2)),
    Fact.pure [15] (fun v => v = (Bo β2)),
    Fact.pure [16] (fun v => β2 = false → v = (Fl r30)),
    Fact.pure [17, 16] (fun v => β2 = false → v = (Bo (finF (cf .f32 r30)))),
    Fact.pure [18, 16] (fun v => β2 = false → v = (Bo (!(finF (cf .f32 r30))))),
    Fact.pure [16, 19] (fun v => v = (Bo β3))]) (by simp [Fact.pure, Fact.mem]) ?_
  refine RW_d _ rfl (fun v => by dsimp only [List.set]; try rfl) (fun u hu hF => ?_) (fun v37 => ?_)
  · clear hF
    refine doesG_un rfl ?_
    refine (does_move (u := (Fl r26)) (ev rfl)).mono ?_; rintro _ _ ⟨rfl, rfl⟩
    exact ⟨rfl, Ext.refl _⟩
  refine RW_d _ rfl (fun v => by dsimp only [List.set]; try rfl) (fun u hu hF => ?_) (fun v38 => ?_)
  · have h9_ : v37 = (Fl r26) := hF.1
    clear hF
    refine doesG_un rfl ?_
    obtain rfl := h9_
    refine (does_fcmp (.inl rfl) (ev rfl) (ev rfl)).mono ?_; rintro _ _ ⟨rfl, rfl⟩
    exact ⟨(by first | rfl | (show _ = _; simp only [hβ1]; done) | (show _ = _; simp only [hβ1]; rfl)), Ext.refl _⟩
  refine RW_d _ rfl (fun v => by dsimp only [List.set]; try rfl) (fun u hu hF => ?_) (fun v39 => ?_)
  · have h10_ : v38 = (Bo β1) := hF.1
    clear hF
    refine doesG_un rfl ?_
    obtain rfl := h10_
    refine (does_move (u := (Bo β1)) (ev rfl)).mono ?_; rintro _ _ ⟨rfl, rfl⟩
    exact ⟨rfl, Ext.refl _⟩
  refine RW_d _ rfl (fun v => by dsimp only [List.set]; try rfl) (fun u hu hF => ?_) (fun v40 => ?_)
  · have h11_ : v39 = (Bo β1) := hF.1
    clear hF
    obtain rfl := h11_
    refine doesG_g (b := β1) rfl (yld rfl rfl) (fun hg1 => ?_) (fun hc => ⟨fun hg1 => absurd hg1 hc, Ext.refl _⟩)
    refine (does_move (u := (Fl r26)) (ev rfl)).mono ?_; rintro _ _ ⟨rfl, rfl⟩
    exact ⟨fun _ => rfl, Ext.refl _⟩
  refine RW_d _ rfl (fun v => by dsimp only [List.set]; try rfl) (fun u hu hF => ?_) (fun v41 => ?_)
  · have h12_ : β1 = false → v40 = (Fl r26) := hF.1
    have h11_ : v39 = (Bo β1) := hF.2.1
    clear hF
    obtain rfl := h11_
    refine doesG_g (b := β1) rfl (yld rfl rfl) (fun hg1 => ?_) (fun hc => ⟨fun hg1 => absurd hg1 hc, Ext.refl _⟩)
    obtain rfl := h12_ hg1
    refine (does_call (args := #[(Fl r26)]) cal67 (evs rfl) (c_spec_l01Finite r26 _)).mono ?_; rintro v u' ⟨hx, hv⟩
    exact ⟨fun _ => hv, hx⟩
  refine RW_d _ rfl (fun v => by dsimp only [List.set]; try rfl) (fun u hu hF => ?_) (fun v42 => ?_)
  · have h13_ : β1 = false → v41 = (Bo (finF (cf .f32 r26))) := hF.1
    have h11_ : v39 = (Bo β1) := hF.2.1
    clear hF
    obtain rfl := h11_
    refine doesG_g (b := β1) rfl (yld rfl rfl) (fun hg1 => ?_) (fun hc => ⟨fun hg1 => absurd hg1 hc, Ext.refl _⟩)
    obtain rfl := h13_ hg1
    refine (does_not (ev rfl)).mono ?_; rintro _ _ ⟨rfl, rfl⟩
    exact ⟨fun _ => rfl, Ext.refl _⟩
  refine RW_d _ rfl (fun v => by dsimp only [List.set]; try rfl) (fun u hu hF => ?_) (fun v43 => ?_)
  · have h11_ : v39 = (Bo β1) := hF.1
    have h14_ : β1 = false → v42 = (Bo (!(finF (cf .f32 r26)))) := hF.2.1
    clear hF
    refine doesG_un rfl ?_
    skip
    obtain rfl := h11_
    refine (does_pick (b := β1) (u := (Bo true)) (v := v42) (ev rfl) (ev rfl) (ev rfl)).mono ?_; rintro _ _ ⟨rfl, rfl⟩; refine ⟨?_, Ext.refl _⟩; rw [hβ2]; skip
    cases hbb : β1
    all_goals first | (show _ = _; simp only [↓reduceIte, Bool.true_and, Bool.false_and, Bool.true_or, Bool.false_or, Bool.false_eq_true]; done) | (have e_ := h14_ hbb; subst e_; show _ = _; simp only [↓reduceIte, Bool.true_and, Bool.false_and, Bool.true_or, Bool.false_or, Bool.false_eq_true]; done) | rfl | (have e_ := h14_ hbb; subst e_; rfl) | (simp [hbb] at h14_ ⊢; first | done | rfl | (subst h14_; rfl) | simp_all) | (simp [hbb] at h14_ ⊢; done)
  refine RW_d _ rfl (fun v => by dsimp only [List.set]; try rfl) (fun u hu hF => ?_) (fun v44 => ?_)
  · have h15_ : v43 = (Bo β2) := hF.1
    clear hF
    refine doesG_un rfl ?_
    obtain rfl := h15_
    refine (does_move (u := (Bo β2)) (ev rfl)).mono ?_; rintro _ _ ⟨rfl, rfl⟩
    exact ⟨rfl, Ext.refl _⟩
  refine RW_d _ rfl (fun v => by dsimp only [List.set]; try rfl) (fun u hu hF => ?_) (fun v45 => ?_)
  · have h16_ : v44 = (Bo β2) := hF.1
    clear hF
    obtain rfl := h16_
    refine doesG_g (b := β2) rfl (yld rfl rfl) (fun hg1 => ?_) (fun hc => ⟨fun hg1 => absurd hg1 hc, Ext.refl _⟩)
    refine (does_move (u := (Fl r30)) (ev rfl)).mono ?_; rintro _ _ ⟨rfl, rfl⟩
    exact ⟨fun _ => rfl, Ext.refl _⟩
  refine RW_d _ rfl (fun v => by dsimp only [List.set]; try rfl) (fun u hu hF => ?_) (fun v46 => ?_)
  · have h17_ : β2 = false → v45 = (Fl r30) := hF.1
    have h16_ : v44 = (Bo β2) := hF.2.1
    clear hF
    obtain rfl := h16_
    refine doesG_g (b := β2) rfl (yld rfl rfl) (fun hg1 => ?_) (fun hc => ⟨fun hg1 => absurd hg1 hc, Ext.refl _⟩)
    obtain rfl := h17_ hg1
    refine (does_call (args := #[(Fl r30)]) cal67 (evs rfl) (c_spec_l01Finite r30 _)).mono ?_; rintro v u' ⟨hx, hv⟩
    exact ⟨fun _ => hv, hx⟩
  refine RW_d _ rfl (fun v => by dsimp only [List.set]; try rfl) (fun u hu hF => ?_) (fun v47 => ?_)
  · have h18_ : β2 = false → v46 = (Bo (finF (cf .f32 r30))) := hF.1
    have h16_ : v44 = (Bo β2) := hF.2.1
    clear hF
    obtain rfl := h16_
    refine doesG_g (b := β2) rfl (yld rfl rfl) (fun hg1 => ?_) (fun hc => ⟨fun hg1 => absurd hg1 hc, Ext.refl _⟩)
    obtain rfl := h18_ hg1
    refine (does_not (ev rfl)).mono ?_; rintro _ _ ⟨rfl, rfl⟩
    exact ⟨fun _ => rfl, Ext.refl _⟩
  refine RW_d _ rfl (fun v => by dsimp only [List.set]; try rfl) (fun u hu hF => ?_) (fun v48 => ?_)
  · have h16_ : v44 = (Bo β2) := hF.1
    have h19_ : β2 = false → v47 = (Bo (!(finF (cf .f32 r30)))) := hF.2.1
    clear hF
    refine doesG_un rfl ?_
    skip
    obtain rfl := h16_
    refine (does_pick (b := β2) (u := (Bo true)) (v := v47) (ev rfl) (ev rfl) (ev rfl)).mono ?_; rintro _ _ ⟨rfl, rfl⟩; refine ⟨?_, Ext.refl _⟩; rw [hβ3]; skip
    cases hbb : β2
    all_goals first | (show _ = _; simp only [↓reduceIte, Bool.true_and, Bool.false_and, Bool.true_or, Bool.false_or, Bool.false_eq_true]; done) | (have e_ := h19_ hbb; subst e_; show _ = _; simp only [↓reduceIte, Bool.true_and, Bool.false_and, Bool.true_or, Bool.false_or, Bool.false_eq_true]; done) | rfl | (have e_ := h19_ hbb; subst e_; rfl) | (simp [hbb] at h19_ ⊢; first | done | rfl | (subst h19_; rfl) | simp_all) | (simp [hbb] at h19_ ⊢; done)
  refine RW_fin ?_; intro w49 E50 hP51
  obtain ⟨⟨⟨⟨⟨⟨⟨⟨⟨⟨⟨⟨-, -⟩, -⟩, -⟩, -⟩, -⟩, -⟩, -⟩, -⟩, -⟩, -⟩, -⟩, q52⟩ := hP51
  have X53 := Ext.gr X34 E50
  have q52 : v48 = (Bo β3) := q52
  obtain rfl := q52
  show wpList _ _ _ _ (fr [_, _, _, _, _, _, _, _, _, _, _, _, _, _, _, _, _, _, _, _, _, _, _, _, _]) _
  refine wpList_nil (hK36 _ _ ?_)
  refine wp_cond_split (t := β3) (ev rfl) (fun c54 => ?_) (fun c54 => ?_)
  · have c54' := c54
    (try simp only [hβ1, hβ2, hβ3, any2_finF] at c54')
    (try simp only [hβ1, hβ2, hβ3] at c54')
    (try simp only [icmp, Bool.and_eq_true, Bool.or_eq_true, Bool.and_eq_false_iff, Bool.or_eq_false_iff, Bool.not_eq_true', Bool.not_eq_false', decide_eq_true_eq, decide_eq_false_iff_not, beq_iff_eq, bne_iff_ne, beq_eq_false_iff_ne, bne_eq_false_iff_eq] at c54')
    refine wp_seq_k fun K55 hK55 => ?_
    refine wp_region_lit ?_
    refine q_is rfl rfl (does_build (parts' := []) (cells := #[(Fl 0), (Fl 0), (Fl 0)]) (evp rfl) (by kernel_rfl)) (by dsimp only [List.set]; try rfl) ?_
    refine seqn rfl rfl (does_store (n := 3) (cs := [(Fl 0), (Fl 0), (Fl 0)]) (u := (.agg #[(Fl 0), (Fl 0), (Fl 0)])) (ev rfl) (ev rfl) Try.sizeOf32 rfl (((hB17.ext E24).ext E32).ext E50) (Nat.le_of_ble_eq_true rfl) rfl) ?_; rintro _ w58 ⟨rfl, W56, hB57⟩
    change Blk _ _ [(Fl 0), (Fl 0), (Fl 0)] at hB57
    have X59 := Below.wr X53 W56 g21
    refine wpList_nil (hK55 _ _ ?_)
    refine wp_ret ?_
    dsimp only [Exit.then, Exit.inBlock]
    refine ret_val (v := (.agg #[(Fl 0), (Fl 0), (Fl 0)])) (res_C rfl (slot rfl) (run_loadAgg (cs := [(Fl 0), (Fl 0), (Fl 0)]) Try.isAgg32 Try.sizeOf32 (Blk.cells hB57) rfl)) X59 ?_
    try simp only [h2, h4, h6, h27, h31, hβ1, hβ2, hβ3, any2_finF] at c54
    have x60 : cf .f32 0 = (unitF A_v).x := by first | (rw [unit_zero1 (by assumption)]; rfl) | (rw [unit_zero2 (by assumption)]; rfl) | (rw [unit_by1 (by assumption)]; simp only [vscale, h2, h4, h6, h27, h31, hβ1, hβ2, hβ3, c54]; done) | (rw [unit_by2 (by assumption)]; simp only [vscale, h2, h4, h6, h27, h31, hβ1, hβ2, hβ3, c54]; done)
    have x61 : cf .f32 0 = (unitF A_v).y := by first | (rw [unit_zero1 (by assumption)]; rfl) | (rw [unit_zero2 (by assumption)]; rfl) | (rw [unit_by1 (by assumption)]; simp only [vscale, h2, h4, h6, h27, h31, hβ1, hβ2, hβ3, c54]; done) | (rw [unit_by2 (by assumption)]; simp only [vscale, h2, h4, h6, h27, h31, hβ1, hβ2, hβ3, c54]; done)
    have x62 : cf .f32 0 = (unitF A_v).z := by first | (rw [unit_zero1 (by assumption)]; rfl) | (rw [unit_zero2 (by assumption)]; rfl) | (rw [unit_by1 (by assumption)]; simp only [vscale, h2, h4, h6, h27, h31, hβ1, hβ2, hβ3, c54]; done) | (rw [unit_by2 (by assumption)]; simp only [vscale, h2, h4, h6, h27, h31, hβ1, hβ2, hβ3, c54]; done)
    exact ⟨[(Fl 0), (Fl 0), (Fl 0)], rfl, ⟨0, 0, 0, rfl, x60, x61, x62⟩⟩
  have c54' := c54
  (try simp only [hβ1, hβ2, hβ3, any2_finF] at c54')
  (try simp only [hβ1, hβ2, hβ3] at c54')
  (try simp only [icmp, Bool.and_eq_true, Bool.or_eq_true, Bool.and_eq_false_iff, Bool.or_eq_false_iff, Bool.not_eq_true', Bool.not_eq_false', decide_eq_true_eq, decide_eq_false_iff_not, beq_iff_eq, bne_iff_ne, beq_eq_false_iff_ne, bne_eq_false_iff_eq] at c54')
  refine wp_skip (hK35 _ _ ?_)
  refine wp_seq_k fun K63 hK63 => ?_
  refine wp_region_lit ?_
  refine q_is rfl rfl (does_loadAgg (cs := [(Fl r1), (Fl r3), (Fl r5)]) (ev rfl) Try.isAgg32 Try.sizeOf32 (Blk.cells ((((hB10.ext E18).ext E24).ext E32).ext E50)) rfl) (by dsimp only [List.set]; try rfl) ?_
  refine q_is rfl rfl (does_move (u := (Fl r30)) (ev rfl)) (by dsimp only [List.set]; try rfl) ?_
  refine seqd rfl rfl (does_call (args := #[(.agg #[(Fl r1), (Fl r3), (Fl r5)]), (Fl r30)]) cal55 (evs rfl) (c_spec_l01Scale [(Fl r1), (Fl r3), (Fl r5)] A_v r30 _ ⟨r1, r3, r5, rfl, h2, h4, h6⟩)) ?_; rintro _ w65 ⟨E64, ⟨_, rfl, ⟨r66, r68, r70, rfl, h67, h69, h71⟩⟩⟩
  have X72 := Ext.gr X53 E64
  show wpList _ _ _ _ (fr [_, _, _, _, _, _, _, _, _, _, _, _, _, _, _, _, _, _, _, _, _, _, _, _, _]) _
  refine seqn rfl rfl (does_store (n := 3) (cs := [(Fl 0), (Fl 0), (Fl 0)]) (u := (.agg #[(Fl r66), (Fl r68), (Fl r70)])) (ev rfl) (ev rfl) Try.sizeOf32 rfl ((((hB17.ext E24).ext E32).ext E50).ext E64) (Nat.le_of_ble_eq_true rfl) rfl) ?_; rintro _ w75 ⟨rfl, W73, hB74⟩
  change Blk _ _ [(Fl r66), (Fl r68), (Fl r70)] at hB74
  have X76 := Below.wr X72 W73 g21
  refine wpList_nil (hK63 _ _ ?_)
  refine wp_ret ?_
  refine ret_val (v := (.agg #[(Fl r66), (Fl r68), (Fl r70)])) (res_C rfl (slot rfl) (run_loadAgg (cs := [(Fl r66), (Fl r68), (Fl r70)]) Try.isAgg32 Try.sizeOf32 (Blk.cells hB74) rfl)) X76 ?_
  try simp only [h2, h4, h6, h27, h31, hβ1, hβ2, hβ3, h67, h69, h71, any2_finF] at c54
  have x77 : cf .f32 r66 = (unitF A_v).x := by first | (rw [unit_zero1 (by assumption)]; rfl) | (rw [unit_zero2 (by assumption)]; rfl) | (rw [unit_by1 (by assumption)]; simp only [vscale, h2, h4, h6, h27, h31, hβ1, hβ2, hβ3, h67, h69, h71, c54]; done) | (rw [unit_by2 (by assumption)]; simp only [vscale, h2, h4, h6, h27, h31, hβ1, hβ2, hβ3, h67, h69, h71, c54]; done)
  have x78 : cf .f32 r68 = (unitF A_v).y := by first | (rw [unit_zero1 (by assumption)]; rfl) | (rw [unit_zero2 (by assumption)]; rfl) | (rw [unit_by1 (by assumption)]; simp only [vscale, h2, h4, h6, h27, h31, hβ1, hβ2, hβ3, h67, h69, h71, c54]; done) | (rw [unit_by2 (by assumption)]; simp only [vscale, h2, h4, h6, h27, h31, hβ1, hβ2, hβ3, h67, h69, h71, c54]; done)
  have x79 : cf .f32 r70 = (unitF A_v).z := by first | (rw [unit_zero1 (by assumption)]; rfl) | (rw [unit_zero2 (by assumption)]; rfl) | (rw [unit_by1 (by assumption)]; simp only [vscale, h2, h4, h6, h27, h31, hβ1, hβ2, hβ3, h67, h69, h71, c54]; done) | (rw [unit_by2 (by assumption)]; simp only [vscale, h2, h4, h6, h27, h31, hβ1, hβ2, hβ3, h67, h69, h71, c54]; done)
  exact ⟨[(Fl r66), (Fl r68), (Fl r70)], rfl, ⟨r66, r68, r70, rfl, x77, x78, x79⟩⟩

/- spec.l01Add -/
theorem c_spec_l01Add (a : List Value) (A_a : V3) (b : List Value) (A_b : V3) (w : World) (hv_a : RV3 w A_a a) (hv_b : RV3 w A_b b) : Gives Try.prog 56 #[(.agg a.toArray), (.agg b.toArray)] w (fun v w' => ∃ cs_1 : List Value, v = (.agg cs_1.toArray) ∧ RV3 w (vadd A_a A_b) cs_1) := by
  obtain ⟨r1, r3, r5, rfl, h2, h4, h6⟩ := hv_a
  obtain ⟨r7, r9, r11, rfl, h8, h10, h12⟩ := hv_b
  refine enter [(.agg #[(Fl r1), (Fl r3), (Fl r5)]), (.agg #[(Fl r7), (Fl r9), (Fl r11)]), Ud, Ud, Ud, Ud, Ud, Ud, Ud, Ud, Ud, Ud, Ud, Ud, Ud, Ud, Ud, Ud, Ud, Ud, Ud] Try.func56 rfl Try.ntmps56 rfl ?_
  refine wp_seq_k fun K13 hK13 => ?_
  refine wp_region_lit ?_
  refine seqd rfl rfl (does_box (u := (.agg #[(Fl r1), (Fl r3), (Fl r5)])) (ev rfl)) ?_; rintro _ w18 ⟨b14, rfl, hb15, hB16, E17⟩
  have g19 : w.heap.size ≤ b14 := Nat.le_trans (Below.size (Ext.refl w)) hb15
  change Blk _ _ [(Fl r1), (Fl r3), (Fl r5)] at hB16
  have X20 := Ext.gr (Ext.refl w) E17
  show wpList _ _ _ _ (fr [(.agg #[(Fl r1), (Fl r3), (Fl r5)]), (.agg #[(Fl r7), (Fl r9), (Fl r11)]), (Pt b14 0), Ud, Ud, Ud, Ud, Ud, Ud, Ud, Ud, Ud, Ud, Ud, Ud, Ud, Ud, Ud, Ud, Ud, Ud]) _
  refine seqd rfl rfl (does_box (u := (.agg #[(Fl r7), (Fl r9), (Fl r11)])) (ev rfl)) ?_; rintro _ w25 ⟨b21, rfl, hb22, hB23, E24⟩
  have n26 : b14 < b21 := Nat.lt_of_lt_of_le (Blk.lt hB16) hb22
  have g27 : w.heap.size ≤ b21 := Nat.le_trans (Below.size X20) hb22
  change Blk _ _ [(Fl r7), (Fl r9), (Fl r11)] at hB23
  have X28 := Ext.gr X20 E24
  show wpList _ _ _ _ (fr [(.agg #[(Fl r1), (Fl r3), (Fl r5)]), (.agg #[(Fl r7), (Fl r9), (Fl r11)]), (Pt b14 0), (Pt b21 0), Ud, Ud, Ud, Ud, Ud, Ud, Ud, Ud, Ud, Ud, Ud, Ud, Ud, Ud, Ud, Ud, Ud]) _
  refine seqd rfl rfl (does_alloc z32) ?_; rintro _ w33 ⟨b29, rfl, hb30, hB31, E32⟩
  have n34 : b14 < b29 := Nat.lt_of_lt_of_le (Blk.lt (hB16.ext E24)) hb30
  have n35 : b21 < b29 := Nat.lt_of_lt_of_le (Blk.lt hB23) hb30
  have g36 : w.heap.size ≤ b29 := Nat.le_trans (Below.size X28) hb30
  change Blk _ _ [(Fl 0), (Fl 0), (Fl 0)] at hB31
  have X37 := Ext.gr X28 E32
  show wpList _ _ _ _ (fr [(.agg #[(Fl r1), (Fl r3), (Fl r5)]), (.agg #[(Fl r7), (Fl r9), (Fl r11)]), (Pt b14 0), (Pt b21 0), (Pt b29 0), Ud, Ud, Ud, Ud, Ud, Ud, Ud, Ud, Ud, Ud, Ud, Ud, Ud, Ud, Ud, Ud]) _
  refine wpList_nil (hK13 _ _ ?_)
  refine wp_seq_k fun K38 hK38 => ?_
  refine wp_region_lit ?_
  refine q_is (l' := [(.agg #[(Fl r1), (Fl r3), (Fl r5)]), (.agg #[(Fl r7), (Fl r9), (Fl r11)]), (Pt b14 0), (Pt b21 0), (Pt b29 0), (Pt b14 0), Ud, Ud, Ud, Ud, Ud, Ud, Ud, Ud, Ud, Ud, Ud, Ud, Ud, Ud, Ud]) rfl rfl (does_fieldAddr (ev rfl) fa32_0) rfl ?_
  refine q_is (l' := [(.agg #[(Fl r1), (Fl r3), (Fl r5)]), (.agg #[(Fl r7), (Fl r9), (Fl r11)]), (Pt b14 0), (Pt b21 0), (Pt b29 0), (Pt b14 0), (Fl r1), Ud, Ud, Ud, Ud, Ud, Ud, Ud, Ud, Ud, Ud, Ud, Ud, Ud, Ud]) rfl rfl (does_load (u := (Fl r1)) (ev rfl) Try.isAgg22 (Cells.at (Blk.cells ((hB16.ext E24).ext E32)) 0 rfl)) rfl ?_
  refine q_is (l' := [(.agg #[(Fl r1), (Fl r3), (Fl r5)]), (.agg #[(Fl r7), (Fl r9), (Fl r11)]), (Pt b14 0), (Pt b21 0), (Pt b29 0), (Pt b14 0), (Fl r1), (Pt b21 0), Ud, Ud, Ud, Ud, Ud, Ud, Ud, Ud, Ud, Ud, Ud, Ud, Ud]) rfl rfl (does_fieldAddr (ev rfl) fa32_0) rfl ?_
  refine q_is (l' := [(.agg #[(Fl r1), (Fl r3), (Fl r5)]), (.agg #[(Fl r7), (Fl r9), (Fl r11)]), (Pt b14 0), (Pt b21 0), (Pt b29 0), (Pt b14 0), (Fl r1), (Pt b21 0), (Fl r7), Ud, Ud, Ud, Ud, Ud, Ud, Ud, Ud, Ud, Ud, Ud, Ud]) rfl rfl (does_load (u := (Fl r7)) (ev rfl) Try.isAgg22 (Cells.at (Blk.cells (hB23.ext E32)) 0 rfl)) rfl ?_
  refine seqd rfl rfl (does_float (.inl rfl) (ev rfl) (ev rfl)) ?_; rintro _ w42 ⟨r39, rfl, h40, E41⟩
  have X43 := Ext.gr X37 E41
  show wpList _ _ _ _ (fr [(.agg #[(Fl r1), (Fl r3), (Fl r5)]), (.agg #[(Fl r7), (Fl r9), (Fl r11)]), (Pt b14 0), (Pt b21 0), (Pt b29 0), (Pt b14 0), (Fl r1), (Pt b21 0), (Fl r7), (Fl r39), Ud, Ud, Ud, Ud, Ud, Ud, Ud, Ud, Ud, Ud, Ud]) _
  refine q_is (l' := [(.agg #[(Fl r1), (Fl r3), (Fl r5)]), (.agg #[(Fl r7), (Fl r9), (Fl r11)]), (Pt b14 0), (Pt b21 0), (Pt b29 0), (Pt b14 0), (Fl r1), (Pt b21 0), (Fl r7), (Fl r39), (Pt b14 1), Ud, Ud, Ud, Ud, Ud, Ud, Ud, Ud, Ud, Ud]) rfl rfl (does_fieldAddr (ev rfl) fa32_1) rfl ?_
  refine q_is (l' := [(.agg #[(Fl r1), (Fl r3), (Fl r5)]), (.agg #[(Fl r7), (Fl r9), (Fl r11)]), (Pt b14 0), (Pt b21 0), (Pt b29 0), (Pt b14 0), (Fl r1), (Pt b21 0), (Fl r7), (Fl r39), (Pt b14 1), (Fl r3), Ud, Ud, Ud, Ud, Ud, Ud, Ud, Ud, Ud]) rfl rfl (does_load (u := (Fl r3)) (ev rfl) Try.isAgg22 (Cells.at (Blk.cells (((hB16.ext E24).ext E32).ext E41)) 1 rfl)) rfl ?_
  refine q_is (l' := [(.agg #[(Fl r1), (Fl r3), (Fl r5)]), (.agg #[(Fl r7), (Fl r9), (Fl r11)]), (Pt b14 0), (Pt b21 0), (Pt b29 0), (Pt b14 0), (Fl r1), (Pt b21 0), (Fl r7), (Fl r39), (Pt b14 1), (Fl r3), (Pt b21 1), Ud, Ud, Ud, Ud, Ud, Ud, Ud, Ud]) rfl rfl (does_fieldAddr (ev rfl) fa32_1) rfl ?_
  refine q_is (l' := [(.agg #[(Fl r1), (Fl r3), (Fl r5)]), (.agg #[(Fl r7), (Fl r9), (Fl r11)]), (Pt b14 0), (Pt b21 0), (Pt b29 0), (Pt b14 0), (Fl r1), (Pt b21 0), (Fl r7), (Fl r39), (Pt b14 1), (Fl r3), (Pt b21 1), (Fl r9), Ud, Ud, Ud, Ud, Ud, Ud, Ud]) rfl rfl (does_load (u := (Fl r9)) (ev rfl) Try.isAgg22 (Cells.at (Blk.cells ((hB23.ext E32).ext E41)) 1 rfl)) rfl ?_
  refine seqd rfl rfl (does_float (.inl rfl) (ev rfl) (ev rfl)) ?_; rintro _ w47 ⟨r44, rfl, h45, E46⟩
  have X48 := Ext.gr X43 E46
  show wpList _ _ _ _ (fr [(.agg #[(Fl r1), (Fl r3), (Fl r5)]), (.agg #[(Fl r7), (Fl r9), (Fl r11)]), (Pt b14 0), (Pt b21 0), (Pt b29 0), (Pt b14 0), (Fl r1), (Pt b21 0), (Fl r7), (Fl r39), (Pt b14 1), (Fl r3), (Pt b21 1), (Fl r9), (Fl r44), Ud, Ud, Ud, Ud, Ud, Ud]) _
  refine q_is (l' := [(.agg #[(Fl r1), (Fl r3), (Fl r5)]), (.agg #[(Fl r7), (Fl r9), (Fl r11)]), (Pt b14 0), (Pt b21 0), (Pt b29 0), (Pt b14 0), (Fl r1), (Pt b21 0), (Fl r7), (Fl r39), (Pt b14 1), (Fl r3), (Pt b21 1), (Fl r9), (Fl r44), (Pt b14 2), Ud, Ud, Ud, Ud, Ud]) rfl rfl (does_fieldAddr (ev rfl) fa32_2) rfl ?_
  refine q_is (l' := [(.agg #[(Fl r1), (Fl r3), (Fl r5)]), (.agg #[(Fl r7), (Fl r9), (Fl r11)]), (Pt b14 0), (Pt b21 0), (Pt b29 0), (Pt b14 0), (Fl r1), (Pt b21 0), (Fl r7), (Fl r39), (Pt b14 1), (Fl r3), (Pt b21 1), (Fl r9), (Fl r44), (Pt b14 2), (Fl r5), Ud, Ud, Ud, Ud]) rfl rfl (does_load (u := (Fl r5)) (ev rfl) Try.isAgg22 (Cells.at (Blk.cells ((((hB16.ext E24).ext E32).ext E41).ext E46)) 2 rfl)) rfl ?_
  refine q_is (l' := [(.agg #[(Fl r1), (Fl r3), (Fl r5)]), (.agg #[(Fl r7), (Fl r9), (Fl r11)]), (Pt b14 0), (Pt b21 0), (Pt b29 0), (Pt b14 0), (Fl r1), (Pt b21 0), (Fl r7), (Fl r39), (Pt b14 1), (Fl r3), (Pt b21 1), (Fl r9), (Fl r44), (Pt b14 2), (Fl r5), (Pt b21 2), Ud, Ud, Ud]) rfl rfl (does_fieldAddr (ev rfl) fa32_2) rfl ?_
  refine q_is (l' := [(.agg #[(Fl r1), (Fl r3), (Fl r5)]), (.agg #[(Fl r7), (Fl r9), (Fl r11)]), (Pt b14 0), (Pt b21 0), (Pt b29 0), (Pt b14 0), (Fl r1), (Pt b21 0), (Fl r7), (Fl r39), (Pt b14 1), (Fl r3), (Pt b21 1), (Fl r9), (Fl r44), (Pt b14 2), (Fl r5), (Pt b21 2), (Fl r11), Ud, Ud]) rfl rfl (does_load (u := (Fl r11)) (ev rfl) Try.isAgg22 (Cells.at (Blk.cells (((hB23.ext E32).ext E41).ext E46)) 2 rfl)) rfl ?_
  refine seqd rfl rfl (does_float (.inl rfl) (ev rfl) (ev rfl)) ?_; rintro _ w52 ⟨r49, rfl, h50, E51⟩
  have X53 := Ext.gr X48 E51
  show wpList _ _ _ _ (fr [(.agg #[(Fl r1), (Fl r3), (Fl r5)]), (.agg #[(Fl r7), (Fl r9), (Fl r11)]), (Pt b14 0), (Pt b21 0), (Pt b29 0), (Pt b14 0), (Fl r1), (Pt b21 0), (Fl r7), (Fl r39), (Pt b14 1), (Fl r3), (Pt b21 1), (Fl r9), (Fl r44), (Pt b14 2), (Fl r5), (Pt b21 2), (Fl r11), (Fl r49), Ud]) _
  refine q_is (l' := [(.agg #[(Fl r1), (Fl r3), (Fl r5)]), (.agg #[(Fl r7), (Fl r9), (Fl r11)]), (Pt b14 0), (Pt b21 0), (Pt b29 0), (Pt b14 0), (Fl r1), (Pt b21 0), (Fl r7), (Fl r39), (Pt b14 1), (Fl r3), (Pt b21 1), (Fl r9), (Fl r44), (Pt b14 2), (Fl r5), (Pt b21 2), (Fl r11), (Fl r49), (.agg #[(Fl r39), (Fl r44), (Fl r49)])]) rfl rfl (does_build (parts' := [(0, (Fl r39)), (1, (Fl r44)), (2, (Fl r49))]) (cells := #[(Fl r39), (Fl r44), (Fl r49)]) (evp rfl) (by kernel_rfl)) rfl ?_
  refine seqn rfl rfl (does_store (n := 3) (cs := [(Fl 0), (Fl 0), (Fl 0)]) (u := (.agg #[(Fl r39), (Fl r44), (Fl r49)])) (ev rfl) (ev rfl) Try.sizeOf32 rfl (((hB31.ext E41).ext E46).ext E51) (Nat.le_of_ble_eq_true rfl) rfl) ?_; rintro _ w56 ⟨rfl, W54, hB55⟩
  change Blk _ _ [(Fl r39), (Fl r44), (Fl r49)] at hB55
  have X57 := Below.wr X53 W54 g36
  refine wpList_nil (hK38 _ _ ?_)
  refine wp_ret ?_
  refine ret_val (v := (.agg #[(Fl r39), (Fl r44), (Fl r49)])) (res_C rfl (slot rfl) (run_loadAgg (cs := [(Fl r39), (Fl r44), (Fl r49)]) Try.isAgg32 Try.sizeOf32 (Blk.cells hB55) rfl)) X57 ?_
  have x58 : cf .f32 r39 = (vadd A_a A_b).x := by first | with_reducible rfl | (simp only [vadd, h2, h4, h6, h8, h10, h12, h40, h45, h50]; done) | (simp [vadd, h2, h4, h6, h8, h10, h12, h40, h45, h50]; done) | rfl
  have x59 : cf .f32 r44 = (vadd A_a A_b).y := by first | with_reducible rfl | (simp only [vadd, h2, h4, h6, h8, h10, h12, h40, h45, h50]; done) | (simp [vadd, h2, h4, h6, h8, h10, h12, h40, h45, h50]; done) | rfl
  have x60 : cf .f32 r49 = (vadd A_a A_b).z := by first | with_reducible rfl | (simp only [vadd, h2, h4, h6, h8, h10, h12, h40, h45, h50]; done) | (simp [vadd, h2, h4, h6, h8, h10, h12, h40, h45, h50]; done) | rfl
  exact ⟨[(Fl r39), (Fl r44), (Fl r49)], rfl, ⟨r39, r44, r49, rfl, x58, x59, x60⟩⟩

/- spec.PartBalls -/
theorem c_spec_PartBalls (ctr : Value) (L_ctr : List V3) (rad : Value) (L_rad : List Nat) (rnd : Int) (w : World) (hv_ctr : Sl RV3 3 w ctr L_ctr) (hv_rad : Sl RF 1 w rad L_rad) : Gives Try.prog 22 #[ctr, rad, (Iv rnd)] w (fun v w' => ∃ y_1 : Value, v = (.tuple #[y_1, (Bo (ptOk L_ctr L_rad rnd))]) ∧ Hang w.heap.size w' (fun u => Sl RV3 3 u y_1 (ptL L_ctr L_rad rnd))) := by
  have hlen_ctr := Sl.len hv_ctr; obtain ⟨p_ctr, q_ctr, rfl⟩ := Sl.shape hv_ctr
  have hlen_rad := Sl.len hv_rad; obtain ⟨p_rad, q_rad, rfl⟩ := Sl.shape hv_rad
  refine enter [(.slice p_ctr L_ctr.length q_ctr), (.slice p_rad L_rad.length q_rad), (Iv rnd), Ud, Ud, Ud, Ud, Ud, Ud, Ud, Ud, Ud, Ud, Ud, Ud, Ud, Ud, Ud, Ud, Ud, Ud, Ud, Ud, Ud, Ud, Ud, Ud, Ud, Ud, Ud, Ud, Ud, Ud, Ud, Ud, Ud, Ud, Ud, Ud, Ud, Ud, Ud, Ud, Ud, Ud, Ud, Ud, Ud, Ud, Ud, Ud, Ud, Ud, Ud, Ud, Ud, Ud, Ud, Ud, Ud, Ud, Ud, Ud, Ud, Ud, Ud, Ud, Ud, Ud, Ud, Ud, Ud, Ud, Ud, Ud, Ud, Ud, Ud, Ud, Ud, Ud, Ud, Ud, Ud, Ud, Ud, Ud, Ud, Ud, Ud, Ud, Ud, Ud, Ud, Ud, Ud, Ud, Ud, Ud, Ud] Try.func22 rfl Try.ntmps22 rfl ?_
  refine wp_seq_k fun K1 hK1 => ?_
  refine wp_region_lit ?_
  refine q_is rfl rfl (does_assign (u := (.slice none 0 0)) (ev rfl)) (by dsimp only [List.set]; try rfl) ?_
  refine q_is rfl rfl (does_assign (u := (Bo false)) (ev rfl)) (by dsimp only [List.set]; try rfl) ?_
  refine wpList_nil (hK1 _ _ ?_)
  refine wp_seq_k fun K2 hK2 => ?_
  refine wp_seq_k fun K3 hK3 => ?_
  obtain ⟨β1, hβ1⟩ : ∃ b : Bool, b = ((!(okBalls L_ctr L_rad)) || (!(inI rnd 0 64))) := ⟨_, rfl⟩
  refine region_text (
    [Fact.pure [] (fun v => v = (.slice p_ctr L_ctr.length q_ctr)),
    Fact.pure [] (fun v => v = (.slice p_rad L_rad.length q_rad)),
    Fact.pure [14, 15] (fun v => v = (Bo (okBalls L_ctr L_rad))),
    Fact.pure [16] (fun v => v = (Bo (!(okBalls L_ctr L_rad)))),
    Fact.pure [17] (fun v => v = (Bo (!(okBalls L_ctr L_rad)))),
    Fact.pure [18] (fun v => (!(okBalls L_ctr L_rad)) = false → v = (Iv rnd)),
    Fact.pure [19, 18] (fun v => (!(okBalls L_ctr L_rad)) = false → v = (Bo (inI rnd 0 64))),
    Fact.pure [20, 18] (fun v => (!(okBalls L_ctr L_rad)) = false → v = (Bo (!(inI rnd 0 64)))),
    Fact.pure [18, 21] (fun v => v = (Bo β1))]) (by simp [Fact.pure, Fact.mem]) ?_
  refine RW_d _ rfl (fun v => by dsimp only [List.set]; try rfl) (fun u hu hF => ?_) (fun v4 => ?_)
  · clear hF
    refine doesG_un rfl ?_
    refine (does_move (u := (.slice p_ctr L_ctr.length q_ctr)) (ev rfl)).mono ?_; rintro _ _ ⟨rfl, rfl⟩
    exact ⟨rfl, Ext.refl _⟩
  refine RW_d _ rfl (fun v => by dsimp only [List.set]; try rfl) (fun u hu hF => ?_) (fun v5 => ?_)
  · clear hF
    refine doesG_un rfl ?_
    refine (does_move (u := (.slice p_rad L_rad.length q_rad)) (ev rfl)).mono ?_; rintro _ _ ⟨rfl, rfl⟩
    exact ⟨rfl, Ext.refl _⟩
  refine RW_d _ rfl (fun v => by dsimp only [List.set]; try rfl) (fun u hu hF => ?_) (fun v6 => ?_)
  · have h14_ : v4 = (.slice p_ctr L_ctr.length q_ctr) := hF.1
    have h15_ : v5 = (.slice p_rad L_rad.length q_rad) := hF.2.1
    clear hF
    refine doesG_un rfl ?_
    obtain rfl := h14_
    obtain rfl := h15_
    refine (does_call (args := #[(.slice p_ctr L_ctr.length q_ctr), (.slice p_rad L_rad.length q_rad)]) cal50 (evs rfl) (c_spec_l08Balls (.slice p_ctr L_ctr.length q_ctr) L_ctr (.slice p_rad L_rad.length q_rad) L_rad _ (Sl.ext hv_ctr RV3.mono hu) (Sl.ext hv_rad RF.mono hu))).mono ?_; rintro v u' ⟨hx, hv⟩
    exact ⟨hv, hx⟩
  refine RW_d _ rfl (fun v => by dsimp only [List.set]; try rfl) (fun u hu hF => ?_) (fun v7 => ?_)
  · have h16_ : v6 = (Bo (okBalls L_ctr L_rad)) := hF.1
    clear hF
    refine doesG_un rfl ?_
    obtain rfl := h16_
    refine (does_not (ev rfl)).mono ?_; rintro _ _ ⟨rfl, rfl⟩
    exact ⟨rfl, Ext.refl _⟩
  refine RW_d _ rfl (fun v => by dsimp only [List.set]; try rfl) (fun u hu hF => ?_) (fun v8 => ?_)
  · have h17_ : v7 = (Bo (!(okBalls L_ctr L_rad))) := hF.1
    clear hF
    refine doesG_un rfl ?_
    obtain rfl := h17_
    refine (does_move (u := (Bo (!(okBalls L_ctr L_rad)))) (ev rfl)).mono ?_; rintro _ _ ⟨rfl, rfl⟩
    exact ⟨rfl, Ext.refl _⟩
  refine RW_d _ rfl (fun v => by dsimp only [List.set]; try rfl) (fun u hu hF => ?_) (fun v9 => ?_)
  · have h18_ : v8 = (Bo (!(okBalls L_ctr L_rad))) := hF.1
    clear hF
    obtain rfl := h18_
    refine doesG_g (b := (!(okBalls L_ctr L_rad))) rfl (yld rfl rfl) (fun hg1 => ?_) (fun hc => ⟨fun hg1 => absurd hg1 hc, Ext.refl _⟩)
    refine (does_move (u := (Iv rnd)) (ev rfl)).mono ?_; rintro _ _ ⟨rfl, rfl⟩
    exact ⟨fun _ => rfl, Ext.refl _⟩
  refine RW_d _ rfl (fun v => by dsimp only [List.set]; try rfl) (fun u hu hF => ?_) (fun v10 => ?_)
  · have h19_ : (!(okBalls L_ctr L_rad)) = false → v9 = (Iv rnd) := hF.1
    have h18_ : v8 = (Bo (!(okBalls L_ctr L_rad))) := hF.2.1
    clear hF
    obtain rfl := h18_
    refine doesG_g (b := (!(okBalls L_ctr L_rad))) rfl (yld rfl rfl) (fun hg1 => ?_) (fun hc => ⟨fun hg1 => absurd hg1 hc, Ext.refl _⟩)
    obtain rfl := h19_ hg1
    refine (does_call (args := #[(Iv rnd)]) cal51 (evs rfl) (c_spec_l08Rounds rnd _)).mono ?_; rintro v u' ⟨hx, hv⟩
    exact ⟨fun _ => hv, hx⟩
  refine RW_d _ rfl (fun v => by dsimp only [List.set]; try rfl) (fun u hu hF => ?_) (fun v11 => ?_)
  · have h20_ : (!(okBalls L_ctr L_rad)) = false → v10 = (Bo (inI rnd 0 64)) := hF.1
    have h18_ : v8 = (Bo (!(okBalls L_ctr L_rad))) := hF.2.1
    clear hF
    obtain rfl := h18_
    refine doesG_g (b := (!(okBalls L_ctr L_rad))) rfl (yld rfl rfl) (fun hg1 => ?_) (fun hc => ⟨fun hg1 => absurd hg1 hc, Ext.refl _⟩)
    obtain rfl := h20_ hg1
    refine (does_not (ev rfl)).mono ?_; rintro _ _ ⟨rfl, rfl⟩
    exact ⟨fun _ => rfl, Ext.refl _⟩
  refine RW_d _ rfl (fun v => by dsimp only [List.set]; try rfl) (fun u hu hF => ?_) (fun v12 => ?_)
  · have h18_ : v8 = (Bo (!(okBalls L_ctr L_rad))) := hF.1
    have h21_ : (!(okBalls L_ctr L_rad)) = false → v11 = (Bo (!(inI rnd 0 64))) := hF.2.1
    clear hF
    refine doesG_un rfl ?_
    skip
    obtain rfl := h18_
    refine (does_pick (b := (!(okBalls L_ctr L_rad))) (u := (Bo true)) (v := v11) (ev rfl) (ev rfl) (ev rfl)).mono ?_; rintro _ _ ⟨rfl, rfl⟩; refine ⟨?_, Ext.refl _⟩; rw [hβ1]; skip
    cases hbb : (!(okBalls L_ctr L_rad))
    all_goals first | (show _ = _; simp only [↓reduceIte, Bool.true_and, Bool.false_and, Bool.true_or, Bool.false_or, Bool.false_eq_true]; done) | (have e_ := h21_ hbb; subst e_; show _ = _; simp only [↓reduceIte, Bool.true_and, Bool.false_and, Bool.true_or, Bool.false_or, Bool.false_eq_true]; done) | rfl | (have e_ := h21_ hbb; subst e_; rfl) | (simp [hbb] at h21_ ⊢; first | done | rfl | (subst h21_; rfl) | simp_all) | (simp [hbb] at h21_ ⊢; done)
  refine RW_fin ?_; intro w13 E14 hP15
  obtain ⟨⟨⟨⟨⟨⟨⟨⟨⟨-, -⟩, -⟩, -⟩, -⟩, -⟩, -⟩, -⟩, -⟩, q16⟩ := hP15
  have X17 := Ext.gr (Ext.refl w) E14
  have q16 : v12 = (Bo β1) := q16
  obtain rfl := q16
  show wpList _ _ _ _ (fr [_, _, _, _, _, _, _, _, _, _, _, _, _, _, _, _, _, _, _, _, _, _, _, _, _, _, _, _, _, _, _, _, _, _, _, _, _, _, _, _, _, _, _, _, _, _, _, _, _, _, _, _, _, _, _, _, _, _, _, _, _, _, _, _, _, _, _, _, _, _, _, _, _, _, _, _, _, _, _, _, _, _, _, _, _, _, _, _, _, _, _, _, _, _, _, _, _, _, _, _]) _
  refine wpList_nil (hK3 _ _ ?_)
  refine wp_cond_split (t := β1) (ev rfl) (fun c18 => ?_) (fun c18 => ?_)
  · have c18' := c18
    (try simp only [hβ1] at c18')
    (try simp only [icmp, Bool.and_eq_true, Bool.or_eq_true, Bool.and_eq_false_iff, Bool.or_eq_false_iff, Bool.not_eq_true', Bool.not_eq_false', decide_eq_true_eq, decide_eq_false_iff_not, beq_iff_eq, bne_iff_ne, beq_eq_false_iff_ne, bne_eq_false_iff_eq] at c18')
    have hpf := ptOk_f c18'
    refine wp_seq_k fun K19 hK19 => ?_
    refine wp_region_lit ?_
    refine q_is rfl rfl (does_assign (u := (.slice none 0 0)) (ev rfl)) (by dsimp only [List.set]; try rfl) ?_
    refine q_is rfl rfl (does_assign (u := (Bo false)) (ev rfl)) (by dsimp only [List.set]; try rfl) ?_
    refine wpList_nil (hK19 _ _ ?_)
    refine wp_ret ?_
    dsimp only [Exit.then, Exit.inBlock]
    refine ret_val (v := (.tuple #[(.slice none 0 0), (Bo false)])) (res_TT rfl (slot rfl) (slot rfl)) X17 ?_
    try simp only [hβ1] at c18
    have x20 : (ptOk L_ctr L_rad rnd) = false := by first | exact hpf | exact hpt | (rw [ptL_f hpf] <;> rfl) | (rw [ptL_t (k := k) hpt hk (by omega)] <;> first | rfl | assumption)
    have x21 : ([]) = (ptL L_ctr L_rad rnd) := by first | exact hpf | exact hpt | (rw [ptL_f hpf] <;> rfl) | (rw [ptL_t (k := k) hpt hk (by omega)] <;> first | rfl | assumption)
    exact ⟨(.slice none 0 0), (by first | with_reducible rfl | rw [x20] | rfl), (Hang.castL (Sl.hang_nil _ _ _ _) x21)⟩
  have c18' := c18
  (try simp only [hβ1] at c18')
  (try simp only [icmp, Bool.and_eq_true, Bool.or_eq_true, Bool.and_eq_false_iff, Bool.or_eq_false_iff, Bool.not_eq_true', Bool.not_eq_false', decide_eq_true_eq, decide_eq_false_iff_not, beq_iff_eq, bne_iff_ne, beq_eq_false_iff_ne, bne_eq_false_iff_eq] at c18')
  have hpt := ptOk_t c18'
  have hob := okBalls_len (c18').1
  have hrn := inI_iff.1 (c18').2
  refine wp_skip (hK2 _ _ ?_)
  refine wp_seq_k fun K22 hK22 => ?_
  refine wp_region_lit ?_
  refine seqd rfl rfl (does_slice0 (e := 32) (fun _ => by kernel_rfl)) ?_; rintro _ w28 ⟨b23, rfl, hb24, hl25, hO26, E27⟩
  have X29 := Ext.gr X17 E27
  have hO30 := hO26 _ RV3 3
  have hH31 : Hang w13.heap.size w28 (fun u => Sl RV3 3 u (.slice (some ⟨b23, 0, none⟩) 0 0) ([])) := Own.hang hO30 RV3.flat (by decide) hb24 (Below.size E27)
  show wpList _ _ _ _ (fr [_, _, _, _, _, _, _, _, _, _, _, _, _, _, _, _, _, _, _, _, _, _, _, _, _, _, _, _, _, _, _, _, _, _, _, _, _, _, _, _, _, _, _, _, _, _, _, _, _, _, _, _, _, _, _, _, _, _, _, _, _, _, _, _, _, _, _, _, _, _, _, _, _, _, _, _, _, _, _, _, _, _, _, _, _, _, _, _, _, _, _, _, _, _, _, _, _, _, _, _]) _
  refine q_is rfl rfl (does_move (u := (.slice p_ctr L_ctr.length q_ctr)) (ev rfl)) (by dsimp only [List.set]; try rfl) ?_
  refine seqd rfl rfl (does_appendS (R := RV3) (k := 3) (g0 := b23) (B := w28.heap.size) (xs := ([])) (ys := L_ctr) Try.underlying47 inf32 rfl (by decide) oneV3 (ev rfl) (ev rfl) hO30 RV3.flat (Sl.ext hv_ctr RV3.mono X29) (by omega) (by first | (simp only [List.length_nil]; omega) | omega) (Nat.le_refl _)) ?_; rintro y' w32 ⟨gg33, hg34, K35, hO36⟩
  have hN37 : w13.heap.size ≤ gg33 := by rcases hg34 with h | h; exact h ▸ hb24; exact Nat.le_trans (Below.size E27) h
  have g38 : w.heap.size ≤ gg33 := Nat.le_trans (Below.size E14) hN37
  have X39 := Below.kl X29 K35 (allS g38 all0) (Nat.le_refl _)
  replace hO36 := hO36.cast (List.nil_append _)
  obtain ⟨p40, q41, rfl⟩ := Own.shape hO36
  have hH42 : Hang w13.heap.size w32 (fun u => Sl RV3 3 u (.slice p40 L_ctr.length q41) L_ctr) := Own.hang hO36 RV3.flat (by decide) hb24 (Below.size E27)
  show wpList _ _ _ _ (fr [_, _, _, _, _, _, _, _, _, _, _, _, _, _, _, _, _, _, _, _, _, _, _, _, _, _, _, _, _, _, _, _, _, _, _, _, _, _, _, _, _, _, _, _, _, _, _, _, _, _, _, _, _, _, _, _, _, _, _, _, _, _, _, _, _, _, _, _, _, _, _, _, _, _, _, _, _, _, _, _, _, _, _, _, _, _, _, _, _, _, _, _, _, _, _, _, _, _, _, _]) _
  refine q_is rfl rfl (does_assign (u := (.slice p40 L_ctr.length q41)) (ev rfl)) (by dsimp only [List.set]; try rfl) ?_
  refine wpList_nil (hK22 _ _ ?_)
  refine wp_seq_k fun K43 hK43 => ?_
  refine wp_seq_k fun K44 hK44 => ?_
  refine wp_region_lit ?_
  refine q_is rfl rfl (does_assign (u := (Iv 0)) (ev rfl)) (by dsimp only [List.set]; try rfl) ?_
  refine wpList_nil (hK44 _ _ ?_)
  refine wp_block ?_
  obtain ⟨gr45, hp46, hg51, hR48, hcap49⟩ := Own.rowg hO36 (by omega)
  have hB50 : w13.heap.size ≤ gr45 := by rcases hg51 with h | h; exact h ▸ hb24; exact Nat.le_trans (Below.size E27) h
  have g52 : w.heap.size ≤ gr45 := Nat.le_trans (Below.size E14) hB50
  subst hp46
  have hl53 := RowG.lt hR48
  refine loop_ghost (σ := Nat) (fun k a w' => ∃ u54 : Nat → Value, a = fr [(.slice p_ctr L_ctr.length q_ctr), (.slice p_rad L_rad.length q_rad), (Iv rnd), Ud, Ud, Ud, (.slice none 0 0), (Bo false), (.slice (some ⟨gr45, 0, none⟩) L_ctr.length q41), (Iv (k : Int)), (u54 10), (u54 11), (u54 12), (u54 13), v4, v5, v6, v7, v8, v9, v10, v11, (Bo β1), (.slice (some ⟨b23, 0, none⟩) 0 0), (.slice p_ctr L_ctr.length q_ctr), (.slice (some ⟨gr45, 0, none⟩) L_ctr.length q41), (u54 26), (u54 27), (u54 28), (u54 29), (u54 30), (u54 31), (u54 32), (u54 33), (u54 34), (u54 35), (u54 36), (u54 37), (u54 38), (u54 39), (u54 40), (u54 41), (u54 42), (u54 43), (u54 44), (u54 45), (u54 46), (u54 47), (u54 48), (u54 49), (u54 50), (u54 51), (u54 52), (u54 53), (u54 54), (u54 55), (u54 56), (u54 57), (u54 58), (u54 59), (u54 60), (u54 61), (u54 62), (u54 63), (u54 64), (u54 65), (u54 66), (u54 67), (u54 68), (u54 69), (u54 70), (u54 71), (u54 72), (u54 73), (u54 74), (u54 75), (u54 76), (u54 77), (u54 78), (u54 79), (u54 80), (u54 81), (u54 82), (u54 83), (u54 84), (u54 85), (u54 86), (u54 87), (u54 88), (u54 89), (u54 90), (u54 91), (u54 92), (u54 93), (u54 94), (u54 95), (u54 96), (u54 97), (u54 98), Ud] ∧ KpL [gr45] w32 w' ∧ RowG RV3 3 w' gr45 (prN L_rad L_ctr k) ∧ ((k : Int) ≤ rnd)) (fun k => rnd.toNat - k) 0 ?_ ?_
  · refine ⟨fun t => (([(.slice p_ctr L_ctr.length q_ctr), (.slice p_rad L_rad.length q_rad), (Iv rnd), Ud, Ud, Ud, (.slice none 0 0), (Bo false), (.slice (some ⟨gr45, 0, none⟩) L_ctr.length q41), (Iv 0), Ud, Ud, Ud, Ud, v4, v5, v6, v7, v8, v9, v10, v11, (Bo β1), (.slice (some ⟨b23, 0, none⟩) 0 0), (.slice p_ctr L_ctr.length q_ctr), (.slice (some ⟨gr45, 0, none⟩) L_ctr.length q41), Ud, Ud, Ud, Ud, Ud, Ud, Ud, Ud, Ud, Ud, Ud, Ud, Ud, Ud, Ud, Ud, Ud, Ud, Ud, Ud, Ud, Ud, Ud, Ud, Ud, Ud, Ud, Ud, Ud, Ud, Ud, Ud, Ud, Ud, Ud, Ud, Ud, Ud, Ud, Ud, Ud, Ud, Ud, Ud, Ud, Ud, Ud, Ud, Ud, Ud, Ud, Ud, Ud, Ud, Ud, Ud, Ud, Ud, Ud, Ud, Ud, Ud, Ud, Ud, Ud, Ud, Ud, Ud, Ud, Ud, Ud, Ud, Ud, Ud] : List Value)[t]?).getD undef, rfl, KpL.refl _ _, (RowG.cast hR48 (by (try dsimp only); rfl)), ?_⟩
    exact hrn.1
  · rintro k a w55 ⟨u54, rfl, E56, hRg0, hk⟩
    have X58 := Below.kl X39 E56 (allS g52 all0) (Nat.le_refl _)
    have hR59 := hRg0; clear hRg0
    refine wp_seq_k fun K60 hK60 => ?_
    refine wp_seq_k fun K61 hK61 => ?_
    refine wp_region_lit ?_
    refine q_is rfl rfl (does_move (u := (Iv (k : Int))) (ev rfl)) (by dsimp only [List.set]; try rfl) ?_
    refine q_is rfl rfl (does_move (u := (Iv rnd)) (ev rfl)) (by dsimp only [List.set]; try rfl) ?_
    refine q_is rfl rfl (does_icmp (p := (k : Int)) (q := rnd) (.inr (.inr (.inl rfl))) (ev rfl) (ev rfl)) (by dsimp only [List.set]; try rfl) ?_
    refine wpList_nil (hK61 _ _ ?_)
    refine wp_cond_split (t := icmp .lss (k : Int) rnd) (ev rfl) (fun c62 => ?_) (fun c62 => ?_)
    · have c62' := c62
      (try simp only [hβ1] at c62')
      (try simp only [icmp, Bool.and_eq_true, Bool.or_eq_true, Bool.and_eq_false_iff, Bool.or_eq_false_iff, Bool.not_eq_true', Bool.not_eq_false', decide_eq_true_eq, decide_eq_false_iff_not, beq_iff_eq, bne_iff_ne, beq_eq_false_iff_ne, bne_eq_false_iff_eq] at c62')
      refine wp_skip (hK60 _ _ ?_)
      refine wp_seq_k fun K63 hK63 => ?_
      refine wp_block ?_
      refine wp_seq_k fun K64 hK64 => ?_
      refine wp_region_lit ?_
      refine q_is rfl rfl (does_assign (u := (Iv 0)) (ev rfl)) (by dsimp only [List.set]; try rfl) ?_
      refine wpList_nil (hK64 _ _ ?_)
      refine wp_block ?_
      refine loop_ghost (σ := Nat) (fun i a w' => ∃ u65 : Nat → Value, a = fr [(.slice p_ctr L_ctr.length q_ctr), (.slice p_rad L_rad.length q_rad), (Iv rnd), Ud, Ud, Ud, (.slice none 0 0), (Bo false), (.slice (some ⟨gr45, 0, none⟩) L_ctr.length q41), (Iv (k : Int)), (Iv (i : Int)), (u65 11), (u65 12), (u65 13), v4, v5, v6, v7, v8, v9, v10, v11, (Bo β1), (.slice (some ⟨b23, 0, none⟩) 0 0), (.slice p_ctr L_ctr.length q_ctr), (.slice (some ⟨gr45, 0, none⟩) L_ctr.length q41), (Iv (k : Int)), (Iv rnd), (Bo (icmp .lss (k : Int) rnd)), (u54 29), (u54 30), (u65 31), (u65 32), (u65 33), (u65 34), (u65 35), (u65 36), (u65 37), (u65 38), (u65 39), (u65 40), (u65 41), (u65 42), (u65 43), (u65 44), (u65 45), (u65 46), (u65 47), (u65 48), (u65 49), (u65 50), (u65 51), (u65 52), (u65 53), (u65 54), (u65 55), (u65 56), (u65 57), (u65 58), (u65 59), (u65 60), (u65 61), (u65 62), (u65 63), (u65 64), (u65 65), (u65 66), (u65 67), (u65 68), (u65 69), (u65 70), (u65 71), (u65 72), (u65 73), (u65 74), (u65 75), (u65 76), (u65 77), (u65 78), (u65 79), (u65 80), (u65 81), (u65 82), (u65 83), (u65 84), (u65 85), (u65 86), (u65 87), (u65 88), (u65 89), (u65 90), (u65 91), (u65 92), (u65 93), (u65 94), (u65 95), (u65 96), (u65 97), (u65 98), Ud] ∧ KpL [gr45] w55 w' ∧ RowG RV3 3 w' gr45 ((pairsTo L_ctr.length i).foldl (partB L_rad) (prN L_rad L_ctr k)) ∧ (i ≤ L_ctr.length)) (fun i => L_ctr.length - i) 0 ?_ ?_
      · refine ⟨fun t => (([(.slice p_ctr L_ctr.length q_ctr), (.slice p_rad L_rad.length q_rad), (Iv rnd), Ud, Ud, Ud, (.slice none 0 0), (Bo false), (.slice (some ⟨gr45, 0, none⟩) L_ctr.length q41), (Iv (k : Int)), (Iv 0), (u54 11), (u54 12), (u54 13), v4, v5, v6, v7, v8, v9, v10, v11, (Bo β1), (.slice (some ⟨b23, 0, none⟩) 0 0), (.slice p_ctr L_ctr.length q_ctr), (.slice (some ⟨gr45, 0, none⟩) L_ctr.length q41), (Iv (k : Int)), (Iv rnd), (Bo (icmp .lss (k : Int) rnd)), (u54 29), (u54 30), (u54 31), (u54 32), (u54 33), (u54 34), (u54 35), (u54 36), (u54 37), (u54 38), (u54 39), (u54 40), (u54 41), (u54 42), (u54 43), (u54 44), (u54 45), (u54 46), (u54 47), (u54 48), (u54 49), (u54 50), (u54 51), (u54 52), (u54 53), (u54 54), (u54 55), (u54 56), (u54 57), (u54 58), (u54 59), (u54 60), (u54 61), (u54 62), (u54 63), (u54 64), (u54 65), (u54 66), (u54 67), (u54 68), (u54 69), (u54 70), (u54 71), (u54 72), (u54 73), (u54 74), (u54 75), (u54 76), (u54 77), (u54 78), (u54 79), (u54 80), (u54 81), (u54 82), (u54 83), (u54 84), (u54 85), (u54 86), (u54 87), (u54 88), (u54 89), (u54 90), (u54 91), (u54 92), (u54 93), (u54 94), (u54 95), (u54 96), (u54 97), (u54 98), Ud] : List Value)[t]?).getD undef, rfl, KpL.refl _ _, (RowG.cast hR59 (by (try dsimp only); rfl)), ?_⟩
        exact Nat.zero_le _
      · rintro i a w66 ⟨u65, rfl, E67, hRg0, hi⟩
        have X69 := Below.kl X58 E67 (allS g52 all0) (Nat.le_refl _)
        have hR70 := hRg0; clear hRg0
        refine wp_seq_k fun K71 hK71 => ?_
        refine wp_seq_k fun K72 hK72 => ?_
        refine wp_region_lit ?_
        refine q_is rfl rfl (does_move (u := (Iv (i : Int))) (ev rfl)) (by dsimp only [List.set]; try rfl) ?_
        refine q_is rfl rfl (does_move (u := (.slice (some ⟨gr45, 0, none⟩) L_ctr.length q41)) (ev rfl)) (by dsimp only [List.set]; try rfl) ?_
        refine q_is rfl rfl (does_len_slice Try.underlying47 (ev rfl)) (by dsimp only [List.set]; try rfl) ?_
        refine q_is rfl rfl (does_icmp (p := (i : Int)) (q := (L_ctr.length : Int)) (.inr (.inr (.inl rfl))) (ev rfl) (ev rfl)) (by dsimp only [List.set]; try rfl) ?_
        refine wpList_nil (hK72 _ _ ?_)
        refine wp_cond_split (t := icmp .lss (i : Int) (L_ctr.length : Int)) (ev rfl) (fun c73 => ?_) (fun c73 => ?_)
        · have c73' := c73
          (try simp only [hβ1] at c73')
          (try simp only [icmp, Bool.and_eq_true, Bool.or_eq_true, Bool.and_eq_false_iff, Bool.or_eq_false_iff, Bool.not_eq_true', Bool.not_eq_false', decide_eq_true_eq, decide_eq_false_iff_not, beq_iff_eq, bne_iff_ne, beq_eq_false_iff_ne, bne_eq_false_iff_eq] at c73')
          refine wp_skip (hK71 _ _ ?_)
          refine wp_seq_k fun K74 hK74 => ?_
          refine wp_block ?_
          refine wp_seq_k fun K75 hK75 => ?_
          refine wp_region_lit ?_
          refine q_is rfl rfl (does_move (u := (Iv (i : Int))) (ev rfl)) (by dsimp only [List.set]; try rfl) ?_
          refine q_is rfl rfl (does_iarith (p := (i : Int)) (q := 1) (r := (i : Int) + 1) (ev rfl) (ev rfl) (.inl ⟨rfl, (in_i64 (by omega) (by omega)).symm⟩)) (by dsimp only [List.set]; try rfl) ?_
          refine q_is rfl rfl (does_assign (u := (Iv ((i : Int) + 1))) (ev rfl)) (by dsimp only [List.set]; try rfl) ?_
          refine wpList_nil (hK75 _ _ ?_)
          refine wp_block ?_
          refine loop_ghost (σ := Nat) (fun j a w' => ∃ u76 : Nat → Value, a = fr [(.slice p_ctr L_ctr.length q_ctr), (.slice p_rad L_rad.length q_rad), (Iv rnd), Ud, Ud, Ud, (.slice none 0 0), (Bo false), (.slice (some ⟨gr45, 0, none⟩) L_ctr.length q41), (Iv (k : Int)), (Iv (i : Int)), (Iv (j : Int)), (u76 12), (u76 13), v4, v5, v6, v7, v8, v9, v10, v11, (Bo β1), (.slice (some ⟨b23, 0, none⟩) 0 0), (.slice p_ctr L_ctr.length q_ctr), (.slice (some ⟨gr45, 0, none⟩) L_ctr.length q41), (Iv (k : Int)), (Iv rnd), (Bo (icmp .lss (k : Int) rnd)), (u54 29), (u54 30), (Iv (i : Int)), (.slice (some ⟨gr45, 0, none⟩) L_ctr.length q41), (Iv (L_ctr.length : Int)), (Bo (icmp .lss (i : Int) (L_ctr.length : Int))), (u65 35), (u65 36), (Iv (i : Int)), (Iv ((i : Int) + 1)), (u76 39), (u76 40), (u76 41), (u76 42), (u76 43), (u76 44), (u76 45), (u76 46), (u76 47), (u76 48), (u76 49), (u76 50), (u76 51), (u76 52), (u76 53), (u76 54), (u76 55), (u76 56), (u76 57), (u76 58), (u76 59), (u76 60), (u76 61), (u76 62), (u76 63), (u76 64), (u76 65), (u76 66), (u76 67), (u76 68), (u76 69), (u76 70), (u76 71), (u76 72), (u76 73), (u76 74), (u76 75), (u76 76), (u76 77), (u76 78), (u76 79), (u76 80), (u76 81), (u76 82), (u76 83), (u76 84), (u76 85), (u76 86), (u76 87), (u76 88), (u76 89), (u76 90), (u76 91), (u76 92), (u76 93), (u76 94), (u76 95), (u76 96), (u76 97), (u76 98), Ud] ∧ KpL [gr45] w66 w' ∧ RowG RV3 3 w' gr45 ((pairsTo L_ctr.length i ++ rowP i j).foldl (partB L_rad) (prN L_rad L_ctr k)) ∧ (i < j ∧ j ≤ L_ctr.length)) (fun j => L_ctr.length - j) (i + 1) ?_ ?_
          · refine ⟨fun t => (([(.slice p_ctr L_ctr.length q_ctr), (.slice p_rad L_rad.length q_rad), (Iv rnd), Ud, Ud, Ud, (.slice none 0 0), (Bo false), (.slice (some ⟨gr45, 0, none⟩) L_ctr.length q41), (Iv (k : Int)), (Iv (i : Int)), (Iv ((i : Int) + 1)), (u65 12), (u65 13), v4, v5, v6, v7, v8, v9, v10, v11, (Bo β1), (.slice (some ⟨b23, 0, none⟩) 0 0), (.slice p_ctr L_ctr.length q_ctr), (.slice (some ⟨gr45, 0, none⟩) L_ctr.length q41), (Iv (k : Int)), (Iv rnd), (Bo (icmp .lss (k : Int) rnd)), (u54 29), (u54 30), (Iv (i : Int)), (.slice (some ⟨gr45, 0, none⟩) L_ctr.length q41), (Iv (L_ctr.length : Int)), (Bo (icmp .lss (i : Int) (L_ctr.length : Int))), (u65 35), (u65 36), (Iv (i : Int)), (Iv ((i : Int) + 1)), (u65 39), (u65 40), (u65 41), (u65 42), (u65 43), (u65 44), (u65 45), (u65 46), (u65 47), (u65 48), (u65 49), (u65 50), (u65 51), (u65 52), (u65 53), (u65 54), (u65 55), (u65 56), (u65 57), (u65 58), (u65 59), (u65 60), (u65 61), (u65 62), (u65 63), (u65 64), (u65 65), (u65 66), (u65 67), (u65 68), (u65 69), (u65 70), (u65 71), (u65 72), (u65 73), (u65 74), (u65 75), (u65 76), (u65 77), (u65 78), (u65 79), (u65 80), (u65 81), (u65 82), (u65 83), (u65 84), (u65 85), (u65 86), (u65 87), (u65 88), (u65 89), (u65 90), (u65 91), (u65 92), (u65 93), (u65 94), (u65 95), (u65 96), (u65 97), (u65 98), Ud] : List Value)[t]?).getD undef, rfl, KpL.refl _ _, (RowG.cast hR70 (by (try dsimp only); rw [rowP_le (Nat.le_refl _), List.append_nil])), ?_⟩
            exact ⟨by omega, by omega⟩
          · rintro j a w77 ⟨u76, rfl, E78, hRg0, ⟨hij, hj⟩⟩
            have X80 := Below.kl X69 E78 (allS g52 all0) (Nat.le_refl _)
            have hR81 := hRg0; clear hRg0
            refine wp_seq_k fun K82 hK82 => ?_
            refine wp_seq_k fun K83 hK83 => ?_
            refine wp_region_lit ?_
            refine q_is rfl rfl (does_move (u := (Iv (j : Int))) (ev rfl)) (by dsimp only [List.set]; try rfl) ?_
            refine q_is rfl rfl (does_move (u := (.slice (some ⟨gr45, 0, none⟩) L_ctr.length q41)) (ev rfl)) (by dsimp only [List.set]; try rfl) ?_
            refine q_is rfl rfl (does_len_slice Try.underlying47 (ev rfl)) (by dsimp only [List.set]; try rfl) ?_
            refine q_is rfl rfl (does_icmp (p := (j : Int)) (q := (L_ctr.length : Int)) (.inr (.inr (.inl rfl))) (ev rfl) (ev rfl)) (by dsimp only [List.set]; try rfl) ?_
            refine wpList_nil (hK83 _ _ ?_)
            refine wp_cond_split (t := icmp .lss (j : Int) (L_ctr.length : Int)) (ev rfl) (fun c84 => ?_) (fun c84 => ?_)
            · have c84' := c84
              (try simp only [hβ1] at c84')
              (try simp only [icmp, Bool.and_eq_true, Bool.or_eq_true, Bool.and_eq_false_iff, Bool.or_eq_false_iff, Bool.not_eq_true', Bool.not_eq_false', decide_eq_true_eq, decide_eq_false_iff_not, beq_iff_eq, bne_iff_ne, beq_eq_false_iff_ne, bne_eq_false_iff_eq] at c84')
              refine wp_skip (hK82 _ _ ?_)
              refine wp_seq_k fun K85 hK85 => ?_
              refine wp_block ?_
              refine wp_seq_k fun K86 hK86 => ?_
              refine wp_region_lit ?_
              refine q_is rfl rfl (does_move (u := (.slice (some ⟨gr45, 0, none⟩) L_ctr.length q41)) (ev rfl)) (by dsimp only [List.set]; try rfl) ?_
              refine q_is rfl rfl (does_move (u := (.slice p_rad L_rad.length q_rad)) (ev rfl)) (by dsimp only [List.set]; try rfl) ?_
              refine q_is rfl rfl (does_move (u := (Iv (i : Int))) (ev rfl)) (by dsimp only [List.set]; try rfl) ?_
              refine q_is rfl rfl (does_move (u := (Iv (j : Int))) (ev rfl)) (by dsimp only [List.set]; try rfl) ?_
              refine seqd rfl rfl (does_call (args := #[(.slice (some ⟨gr45, 0, none⟩) L_ctr.length q41), (.slice p_rad L_rad.length q_rad), (Iv (i : Int)), (Iv (j : Int))]) cal52 (evs rfl) (c_spec_l08Overlap (.slice (some ⟨gr45, 0, none⟩) L_ctr.length q41) ((pairsTo L_ctr.length i ++ rowP i j).foldl (partB L_rad) (prN L_rad L_ctr k)) (.slice p_rad L_rad.length q_rad) L_rad (i : Int) (j : Int) _ (RowG.sl hR81 RV3.flat (by first | assumption | omega | (simp only [foldP_len, prN_len, List.length_set, List.length_replicate]; omega) | (simp only [foldP_len, prN_len, List.length_set, List.length_replicate]; done)) hcap49 (by omega) (by decide)) (Sl.ext hv_rad RF.mono X80) (by simp only [foldP_len, prN_len]; omega) (by simp only [foldP_len, prN_len]; omega) (by simp only [foldP_len, prN_len]; omega))) ?_; rintro _ w88 ⟨E87, ⟨r89, rfl, h90⟩⟩
              have X91 := Ext.gr X80 E87
              show wpList _ _ _ _ (fr [_, _, _, _, _, _, _, _, _, _, _, _, _, _, _, _, _, _, _, _, _, _, _, _, _, _, _, _, _, _, _, _, _, _, _, _, _, _, _, _, _, _, _, _, _, _, _, _, _, _, _, _, _, _, _, _, _, _, _, _, _, _, _, _, _, _, _, _, _, _, _, _, _, _, _, _, _, _, _, _, _, _, _, _, _, _, _, _, _, _, _, _, _, _, _, _, _, _, _, _]) _
              refine q_is rfl rfl (does_assign (u := (Fl r89)) (ev rfl)) (by dsimp only [List.set]; try rfl) ?_
              refine wpList_nil (hK86 _ _ ?_)
              refine wp_seq_k fun K92 hK92 => ?_
              refine wp_seq_k fun K93 hK93 => ?_
              refine wp_region_lit ?_
              refine q_is rfl rfl (does_move (u := (Fl r89)) (ev rfl)) (by dsimp only [List.set]; try rfl) ?_
              refine q_is rfl rfl (does_fcmp (.inr (.inr (.inr (.inr (.inl rfl))))) (ev rfl) (ev rfl)) (by dsimp only [List.set]; try rfl) ?_
              refine q_is rfl rfl (does_not (ev rfl)) (by dsimp only [List.set]; try rfl) ?_
              refine wpList_nil (hK93 _ _ ?_)
              refine wp_cond_split (t := !(fcmp .gtr (ford .f32 (cf .f32 r89) (cf .f32 0)))) (ev rfl) (fun c94 => ?_) (fun c94 => ?_)
              · rw [Bool.not_eq_true'] at c94
                have c94' := c94
                (try simp only [hβ1] at c94')
                (try simp only [icmp, Bool.and_eq_true, Bool.or_eq_true, Bool.and_eq_false_iff, Bool.or_eq_false_iff, Bool.not_eq_true', Bool.not_eq_false', decide_eq_true_eq, decide_eq_false_iff_not, beq_iff_eq, bne_iff_ne, beq_eq_false_iff_ne, bne_eq_false_iff_eq] at c94')
                simp only [hβ1, h90] at c94
                have hxg := c94
                refine wp_exit ?_
                refine hK85 _ _ ?_
                refine wp_region_lit ?_
                refine q_is rfl rfl (does_move (u := (Iv (j : Int))) (ev rfl)) (by dsimp only [List.set]; try rfl) ?_
                refine q_is rfl rfl (does_iarith (p := (j : Int)) (q := 1) (r := (j : Int) + 1) (ev rfl) (ev rfl) (.inl ⟨rfl, (in_i64 (by omega) (by omega)).symm⟩)) (by dsimp only [List.set]; try rfl) ?_
                refine q_is rfl rfl (does_assign (u := (Iv ((j : Int) + 1))) (ev rfl)) (by dsimp only [List.set]; try rfl) ?_
                refine wpList_nil ?_
                have hR95 := RowG.cast (ys := ((fun (j : Nat) => (pairsTo L_ctr.length i ++ rowP i j).foldl (partB L_rad) (prN L_rad L_ctr k)) (j + 1))) (RowG.ext hR81 RV3.flat E87) (by (try dsimp only); rw [rowP_succ hij, ← List.append_assoc, fold_snoc]; first | exact (partB_f (p := ((i : Int), (j : Int))) hxg).symm | exact partB_s (p := ((i : Int), (j : Int))) (by (try dsimp only); omega) hxg hel2 hel1 (by first | (rw [wayB_n hzv]; simp only [halfF, hβ1, h90]; done) | (rw [wayB_z hzv]; simp only [halfF, hβ1, h90]; done)) (by first | exact hel3 | exact hel4))
                refine ⟨j + 1, ⟨fun t => (([(.slice p_ctr L_ctr.length q_ctr), (.slice p_rad L_rad.length q_rad), (Iv rnd), Ud, Ud, Ud, (.slice none 0 0), (Bo false), (.slice (some ⟨gr45, 0, none⟩) L_ctr.length q41), (Iv (k : Int)), (Iv (i : Int)), (Iv ((j : Int) + 1)), (Fl r89), (u76 13), v4, v5, v6, v7, v8, v9, v10, v11, (Bo β1), (.slice (some ⟨b23, 0, none⟩) 0 0), (.slice p_ctr L_ctr.length q_ctr), (.slice (some ⟨gr45, 0, none⟩) L_ctr.length q41), (Iv (k : Int)), (Iv rnd), (Bo (icmp .lss (k : Int) rnd)), (u54 29), (u54 30), (Iv (i : Int)), (.slice (some ⟨gr45, 0, none⟩) L_ctr.length q41), (Iv (L_ctr.length : Int)), (Bo (icmp .lss (i : Int) (L_ctr.length : Int))), (u65 35), (u65 36), (Iv (i : Int)), (Iv ((i : Int) + 1)), (Iv (j : Int)), (.slice (some ⟨gr45, 0, none⟩) L_ctr.length q41), (Iv (L_ctr.length : Int)), (Bo (icmp .lss (j : Int) (L_ctr.length : Int))), (Iv (j : Int)), (Iv ((j : Int) + 1)), (.slice (some ⟨gr45, 0, none⟩) L_ctr.length q41), (.slice p_rad L_rad.length q_rad), (Iv (i : Int)), (Iv (j : Int)), (Fl r89), (Fl r89), (Bo (fcmp .gtr (ford .f32 (cf .f32 r89) (cf .f32 0)))), (Bo (!(fcmp .gtr (ford .f32 (cf .f32 r89) (cf .f32 0))))), (u76 53), (u76 54), (u76 55), (u76 56), (u76 57), (u76 58), (u76 59), (u76 60), (u76 61), (u76 62), (u76 63), (u76 64), (u76 65), (u76 66), (u76 67), (u76 68), (u76 69), (u76 70), (u76 71), (u76 72), (u76 73), (u76 74), (u76 75), (u76 76), (u76 77), (u76 78), (u76 79), (u76 80), (u76 81), (u76 82), (u76 83), (u76 84), (u76 85), (u76 86), (u76 87), (u76 88), (u76 89), (u76 90), (u76 91), (u76 92), (u76 93), (u76 94), (u76 95), (u76 96), (u76 97), (u76 98), Ud] : List Value)[t]?).getD undef, ?_, (KpL.ext E78 E87), hR95, ?_⟩, ?_⟩
                · first | rfl | (simp only [Nat.cast_add, Nat.cast_one, Int.natCast_add, Int.natCast_one]; rfl)
                · (try dsimp only); exact ⟨by omega, by omega⟩
                · (try dsimp only); omega
              rw [Bool.not_eq_false'] at c94
              have c94' := c94
              (try simp only [hβ1] at c94')
              (try simp only [icmp, Bool.and_eq_true, Bool.or_eq_true, Bool.and_eq_false_iff, Bool.or_eq_false_iff, Bool.not_eq_true', Bool.not_eq_false', decide_eq_true_eq, decide_eq_false_iff_not, beq_iff_eq, bne_iff_ne, beq_eq_false_iff_ne, bne_eq_false_iff_eq] at c94')
              simp only [hβ1, h90] at c94
              have hxg := c94
              refine wp_skip (hK92 _ _ ?_)
              refine wp_seq_k fun K96 hK96 => ?_
              obtain ⟨el1, hel1⟩ : ∃ e, ((pairsTo L_ctr.length i ++ rowP i j).foldl (partB L_rad) (prN L_rad L_ctr k))[j]? = some e := ⟨_, List.getElem?_eq_getElem (by first | assumption | omega | (simp only [foldP_len, prN_len, List.length_set, List.length_replicate]; omega) | (simp only [foldP_len, prN_len, List.length_set, List.length_replicate]; done))⟩
              obtain ⟨el2, hel2⟩ : ∃ e, ((pairsTo L_ctr.length i ++ rowP i j).foldl (partB L_rad) (prN L_rad L_ctr k))[i]? = some e := ⟨_, List.getElem?_eq_getElem (by first | assumption | omega | (simp only [foldP_len, prN_len, List.length_set, List.length_replicate]; omega) | (simp only [foldP_len, prN_len, List.length_set, List.length_replicate]; done))⟩
              refine region_draw (
                [Fact.pure [] (fun v => v = (.slice (some ⟨gr45, 0, none⟩) L_ctr.length q41)),
    Fact.pure [] (fun v => v = (Iv (j : Int))),
    Fact.pure [53, 54] (fun v => v = (Pt gr45 (j * 3))),
    Fact.pure [55] (fun v => ∃ cs_1 : List Value, v = (.agg cs_1.toArray) ∧ RV3 w el1 cs_1),
    Fact.pure [] (fun v => v = (.slice (some ⟨gr45, 0, none⟩) L_ctr.length q41)),
    Fact.pure [] (fun v => v = (Iv (i : Int))),
    Fact.pure [57, 58] (fun v => v = (Pt gr45 (i * 3))),
    Fact.pure [59] (fun v => ∃ cs_1 : List Value, v = (.agg cs_1.toArray) ∧ RV3 w el2 cs_1),
    Fact.pure [56, 60] (fun v => ∃ cs_1 : List Value, v = (.agg cs_1.toArray) ∧ RV3 w (vsub el1 el2) cs_1),
    Fact.pure [61] (fun v => ∃ cs_1 : List Value, v = (.agg cs_1.toArray) ∧ RV3 w (unitF (vsub el1 el2)) cs_1),
    Fact.mem [] (fun v w' => ∃ b : Nat, v = .pointer (some ⟨b, 0, none⟩) ∧ w88.heap.size ≤ b ∧ Blk w' b [(Fl 0), (Fl 0), (Fl 0)]) (by rintro v w1 w2 hx ⟨b, rfl, hb, hB⟩; exact ⟨b, rfl, hb, (hB.ext hx)⟩)]) mixed (by kernel_rfl) (by intro _ _ d _ _ h; cases d <;> exact h) ?_
              obtain ⟨w97, hw99⟩ : ∃ w', w' = World.drew w88 := ⟨_, rfl⟩; rw [← hw99]; have E98 : Ext w88 w97 := by rw [hw99]; exact Ext.draw _
              clear hw99
              have X100 := Ext.gr X91 E98
              refine RW_d _ rfl (fun v => by dsimp only [List.set]; try rfl) (fun u hu hF => ?_) (fun v101 => ?_)
              · clear hF
                refine doesG_un rfl ?_
                refine (does_move (u := (.slice (some ⟨gr45, 0, none⟩) L_ctr.length q41)) (ev rfl)).mono ?_; rintro _ _ ⟨rfl, rfl⟩
                exact ⟨rfl, Ext.refl _⟩
              refine RW_d _ rfl (fun v => by dsimp only [List.set]; try rfl) (fun u hu hF => ?_) (fun v102 => ?_)
              · clear hF
                refine doesG_un rfl ?_
                refine (does_move (u := (Iv (j : Int))) (ev rfl)).mono ?_; rintro _ _ ⟨rfl, rfl⟩
                exact ⟨rfl, Ext.refl _⟩
              refine RW_d _ rfl (fun v => by dsimp only [List.set]; try rfl) (fun u hu hF => ?_) (fun v103 => ?_)
              · have h53_ : v101 = (.slice (some ⟨gr45, 0, none⟩) L_ctr.length q41) := hF.1
                have h54_ : v102 = (Iv (j : Int)) := hF.2.1
                clear hF
                refine doesG_un rfl ?_
                obtain rfl := h53_
                obtain rfl := h54_
                refine (does_indexOwn (b := gr45) (n := L_ctr.length) (i := (j : Int)) Try.underlying47 Try.sizeOf32 (ev rfl) (ev rfl) (by omega) (by omega)).mono ?_; rintro _ _ ⟨rfl, rfl⟩
                exact ⟨rfl, Ext.refl _⟩
              refine RW_d _ rfl (fun v => by dsimp only [List.set]; try rfl) (fun u hu hF => ?_) (fun v104 => ?_)
              · have h55_ : v103 = (Pt gr45 (j * 3)) := hF.1
                clear hF
                refine doesG_un rfl ?_
                obtain rfl := h55_
                refine (does_loadRowG (R := RV3) (k := 3) (xs := ((pairsTo L_ctr.length i ++ rowP i j).foldl (partB L_rad) (prN L_rad L_ctr k))) (i := j) (e := el1) (ev rfl) Try.isAgg32 Try.sizeOf32 (RowG.ext (RowG.ext (RowG.ext hR81 RV3.flat E87) RV3.flat E98) RV3.flat hu) rfl hel1).mono ?_; rintro v u' ⟨hx, ⟨csn1, hv, k0⟩⟩
                exact ⟨⟨csn1, hv, k0⟩, hx⟩
              refine RW_d _ rfl (fun v => by dsimp only [List.set]; try rfl) (fun u hu hF => ?_) (fun v105 => ?_)
              · clear hF
                refine doesG_un rfl ?_
                refine (does_move (u := (.slice (some ⟨gr45, 0, none⟩) L_ctr.length q41)) (ev rfl)).mono ?_; rintro _ _ ⟨rfl, rfl⟩
                exact ⟨rfl, Ext.refl _⟩
              refine RW_d _ rfl (fun v => by dsimp only [List.set]; try rfl) (fun u hu hF => ?_) (fun v106 => ?_)
              · clear hF
                refine doesG_un rfl ?_
                refine (does_move (u := (Iv (i : Int))) (ev rfl)).mono ?_; rintro _ _ ⟨rfl, rfl⟩
                exact ⟨rfl, Ext.refl _⟩
              refine RW_d _ rfl (fun v => by dsimp only [List.set]; try rfl) (fun u hu hF => ?_) (fun v107 => ?_)
              · have h57_ : v105 = (.slice (some ⟨gr45, 0, none⟩) L_ctr.length q41) := hF.1
                have h58_ : v106 = (Iv (i : Int)) := hF.2.1
                clear hF
                refine doesG_un rfl ?_
                obtain rfl := h57_
                obtain rfl := h58_
                refine (does_indexOwn (b := gr45) (n := L_ctr.length) (i := (i : Int)) Try.underlying47 Try.sizeOf32 (ev rfl) (ev rfl) (by omega) (by omega)).mono ?_; rintro _ _ ⟨rfl, rfl⟩
                exact ⟨rfl, Ext.refl _⟩
              refine RW_d _ rfl (fun v => by dsimp only [List.set]; try rfl) (fun u hu hF => ?_) (fun v108 => ?_)
              · have h59_ : v107 = (Pt gr45 (i * 3)) := hF.1
                clear hF
                refine doesG_un rfl ?_
                obtain rfl := h59_
                refine (does_loadRowG (R := RV3) (k := 3) (xs := ((pairsTo L_ctr.length i ++ rowP i j).foldl (partB L_rad) (prN L_rad L_ctr k))) (i := i) (e := el2) (ev rfl) Try.isAgg32 Try.sizeOf32 (RowG.ext (RowG.ext (RowG.ext hR81 RV3.flat E87) RV3.flat E98) RV3.flat hu) rfl hel2).mono ?_; rintro v u' ⟨hx, ⟨csn1, hv, k0⟩⟩
                exact ⟨⟨csn1, hv, k0⟩, hx⟩
              refine RW_d _ rfl (fun v => by dsimp only [List.set]; try rfl) (fun u hu hF => ?_) (fun v109 => ?_)
              · have h56_ : ∃ cs_1 : List Value, v104 = (.agg cs_1.toArray) ∧ RV3 w el1 cs_1 := hF.1
                have h60_ : ∃ cs_1 : List Value, v108 = (.agg cs_1.toArray) ∧ RV3 w el2 cs_1 := hF.2.1
                clear hF
                refine doesG_un rfl ?_
                obtain ⟨_, rfl, ⟨r56_1, r56_3, r56_5, rfl, h56_2, h56_4, h56_6⟩⟩ := h56_
                obtain ⟨_, rfl, ⟨r60_1, r60_3, r60_5, rfl, h60_2, h60_4, h60_6⟩⟩ := h60_
                refine (does_call (args := #[(.agg #[(Fl r56_1), (Fl r56_3), (Fl r56_5)]), (.agg #[(Fl r60_1), (Fl r60_3), (Fl r60_5)])]) cal54 (evs rfl) (c_spec_l01Less [(Fl r56_1), (Fl r56_3), (Fl r56_5)] el1 [(Fl r60_1), (Fl r60_3), (Fl r60_5)] el2 _ ⟨r56_1, r56_3, r56_5, rfl, (by assumption), (by assumption), (by assumption)⟩ ⟨r60_1, r60_3, r60_5, rfl, (by assumption), (by assumption), (by assumption)⟩)).mono ?_; rintro v u' ⟨hx, ⟨csn1, hv, k0⟩⟩
                exact ⟨⟨csn1, hv.trans (by simp only [h56_2, h56_4, h56_6, h60_2, h60_4, h60_6]), (by first | exact k0 | simpa only [h56_2, h56_4, h56_6, h60_2, h60_4, h60_6] using RV3.any (w := w) k0)⟩, hx⟩
              refine RW_d _ rfl (fun v => by dsimp only [List.set]; try rfl) (fun u hu hF => ?_) (fun v110 => ?_)
              · have h61_ : ∃ cs_1 : List Value, v109 = (.agg cs_1.toArray) ∧ RV3 w (vsub el1 el2) cs_1 := hF.1
                clear hF
                refine doesG_un rfl ?_
                obtain ⟨_, rfl, ⟨r61_1, r61_3, r61_5, rfl, h61_2, h61_4, h61_6⟩⟩ := h61_
                refine (does_call (args := #[(.agg #[(Fl r61_1), (Fl r61_3), (Fl r61_5)])]) cal53 (evs rfl) (c_spec_l03Unit [(Fl r61_1), (Fl r61_3), (Fl r61_5)] (vsub el1 el2) _ ⟨r61_1, r61_3, r61_5, rfl, (by assumption), (by assumption), (by assumption)⟩)).mono ?_; rintro v u' ⟨hx, ⟨csn1, hv, k0⟩⟩
                exact ⟨⟨csn1, hv.trans (by simp only [h61_2, h61_4, h61_6]), (by first | exact k0 | simpa only [h61_2, h61_4, h61_6] using RV3.any (w := w) k0)⟩, hx⟩
              refine RW_d _ rfl (fun v => by dsimp only [List.set]; try rfl) (fun u hu hF => ?_) (fun v111 => ?_)
              · clear hF
                refine doesG_un rfl ?_
                refine (does_alloc z32).mono ?_; rintro _ _ ⟨b, rfl, hb, hB, hx⟩
                exact ⟨⟨b, rfl, Nat.le_trans (Nat.le_trans (Below.size E98) (Below.size hu)) hb, hB⟩, hx⟩
              refine RW_fin ?_; intro w112 E113 hP114
              obtain ⟨⟨⟨⟨⟨⟨⟨⟨⟨⟨⟨-, -⟩, -⟩, -⟩, -⟩, -⟩, -⟩, -⟩, -⟩, -⟩, q115⟩, q116⟩ := hP114
              have X117 := Ext.gr X100 E113
              have q115 : ∃ cs_1 : List Value, v110 = (.agg cs_1.toArray) ∧ RV3 w (unitF (vsub el1 el2)) cs_1 := q115
              obtain ⟨_, rfl, ⟨r118, r120, r122, rfl, h119, h121, h123⟩⟩ := q115
              have q116 : ∃ b : Nat, v111 = .pointer (some ⟨b, 0, none⟩) ∧ w88.heap.size ≤ b ∧ Blk w112 b [(Fl 0), (Fl 0), (Fl 0)] := q116
              obtain ⟨b124, rfl, hb125, hB126⟩ := q116
              have n127 : gr45 < b124 := Nat.lt_of_lt_of_le (RowG.lt (RowG.ext hR81 RV3.flat E87)) hb125
              have g128 : w.heap.size ≤ b124 := Nat.le_trans (Below.size X91) hb125
              show wpList _ _ _ _ (fr [_, _, _, _, _, _, _, _, _, _, _, _, _, _, _, _, _, _, _, _, _, _, _, _, _, _, _, _, _, _, _, _, _, _, _, _, _, _, _, _, _, _, _, _, _, _, _, _, _, _, _, _, _, _, _, _, _, _, _, _, _, _, _, _, _, _, _, _, _, _, _, _, _, _, _, _, _, _, _, _, _, _, _, _, _, _, _, _, _, _, _, _, _, _, _, _, _, _, _, _]) _
              refine seqn rfl rfl (does_store (n := 3) (cs := [(Fl 0), (Fl 0), (Fl 0)]) (u := (.agg #[(Fl r118), (Fl r120), (Fl r122)])) (ev rfl) (ev rfl) Try.sizeOf32 rfl hB126 (Nat.le_of_ble_eq_true rfl) rfl) ?_; rintro _ w131 ⟨rfl, W129, hB130⟩
              change Blk _ _ [(Fl r118), (Fl r120), (Fl r122)] at hB130
              have X132 := Below.wr X117 W129 g128
              refine wpList_nil (hK96 _ _ ?_)
              refine wp_seq_k fun K133 hK133 => ?_
              refine wp_seq_k fun K134 hK134 => ?_
              obtain ⟨β2, hβ2⟩ : ∃ b : Bool, b = (fcmp .eql (ford .f32 (cf .f32 r118) (cf .f32 0))) := ⟨_, rfl⟩
              obtain ⟨β3, hβ3⟩ : ∃ b : Bool, b = (fcmp .eql (ford .f32 (cf .f32 r120) (cf .f32 0))) := ⟨_, rfl⟩
              obtain ⟨β4, hβ4⟩ : ∃ b : Bool, b = (fcmp .eql (ford .f32 (cf .f32 r122) (cf .f32 0))) := ⟨_, rfl⟩
              refine region_text (
                [Fact.pure [] (fun v => v = (Pt b124 0)),
    Fact.pure [63] (fun v => v = (Fl r118)),
    Fact.pure [64] (fun v => v = (Bo β2)),
    Fact.pure [65] (fun v => v = (Bo β2)),
    Fact.pure [66] (fun v => β2 = true → v = (Pt b124 1)),
    Fact.pure [67, 66] (fun v => β2 = true → v = (Fl r120)),
    Fact.pure [68, 66] (fun v => β2 = true → v = (Bo β3)),
    Fact.pure [66, 69] (fun v => v = (Bo (β2 && β3))),
    Fact.pure [70] (fun v => v = (Bo (β2 && β3))),
    Fact.pure [71] (fun v => (β2 && β3) = true → v = (Pt b124 2)),
    Fact.pure [72, 71] (fun v => (β2 && β3) = true → v = (Fl r122)),
    Fact.pure [73, 71] (fun v => (β2 && β3) = true → v = (Bo β4)),
    Fact.pure [71, 74] (fun v => v = (Bo ((β2 && β3) && β4)))]) (by simp [Fact.pure, Fact.mem]) ?_
              refine RW_d _ rfl (fun v => by dsimp only [List.set]; try rfl) (fun u hu hF => ?_) (fun v135 => ?_)
              · clear hF
                refine doesG_un rfl ?_
                refine (does_fieldAddr (ev rfl) fa32_0).mono ?_; rintro _ _ ⟨rfl, rfl⟩
                exact ⟨rfl, Ext.refl _⟩
              refine RW_d _ rfl (fun v => by dsimp only [List.set]; try rfl) (fun u hu hF => ?_) (fun v136 => ?_)
              · have h63_ : v135 = (Pt b124 0) := hF.1
                clear hF
                refine doesG_un rfl ?_
                obtain rfl := h63_
                refine (does_load (u := (Fl r118)) (ev rfl) Try.isAgg22 (Cells.at (Blk.cells (hB130.ext hu)) 0 rfl)).mono ?_; rintro _ _ ⟨rfl, rfl⟩
                exact ⟨rfl, Ext.refl _⟩
              refine RW_d _ rfl (fun v => by dsimp only [List.set]; try rfl) (fun u hu hF => ?_) (fun v137 => ?_)
              · have h64_ : v136 = (Fl r118) := hF.1
                clear hF
                refine doesG_un rfl ?_
                obtain rfl := h64_
                refine (does_fcmp (.inl rfl) (ev rfl) (ev rfl)).mono ?_; rintro _ _ ⟨rfl, rfl⟩
                exact ⟨(by first | rfl | (show _ = _; simp only [hβ2]; done) | (show _ = _; simp only [hβ2]; rfl)), Ext.refl _⟩
              refine RW_d _ rfl (fun v => by dsimp only [List.set]; try rfl) (fun u hu hF => ?_) (fun v138 => ?_)
              · have h65_ : v137 = (Bo β2) := hF.1
                clear hF
                refine doesG_un rfl ?_
                obtain rfl := h65_
                refine (does_move (u := (Bo β2)) (ev rfl)).mono ?_; rintro _ _ ⟨rfl, rfl⟩
                exact ⟨rfl, Ext.refl _⟩
              refine RW_d _ rfl (fun v => by dsimp only [List.set]; try rfl) (fun u hu hF => ?_) (fun v139 => ?_)
              · have h66_ : v138 = (Bo β2) := hF.1
                clear hF
                obtain rfl := h66_
                refine doesG_g (b := β2) rfl (yld rfl rfl) (fun hg1 => ?_) (fun hc => ⟨fun hg1 => absurd hg1 hc, Ext.refl _⟩)
                refine (does_fieldAddr (ev rfl) fa32_1).mono ?_; rintro _ _ ⟨rfl, rfl⟩
                exact ⟨fun _ => rfl, Ext.refl _⟩
              refine RW_d _ rfl (fun v => by dsimp only [List.set]; try rfl) (fun u hu hF => ?_) (fun v140 => ?_)
              · have h67_ : β2 = true → v139 = (Pt b124 1) := hF.1
                have h66_ : v138 = (Bo β2) := hF.2.1
                clear hF
                obtain rfl := h66_
                refine doesG_g (b := β2) rfl (yld rfl rfl) (fun hg1 => ?_) (fun hc => ⟨fun hg1 => absurd hg1 hc, Ext.refl _⟩)
                obtain rfl := h67_ hg1
                refine (does_load (u := (Fl r120)) (ev rfl) Try.isAgg22 (Cells.at (Blk.cells (hB130.ext hu)) 1 rfl)).mono ?_; rintro _ _ ⟨rfl, rfl⟩
                exact ⟨fun _ => rfl, Ext.refl _⟩
              refine RW_d _ rfl (fun v => by dsimp only [List.set]; try rfl) (fun u hu hF => ?_) (fun v141 => ?_)
              · have h68_ : β2 = true → v140 = (Fl r120) := hF.1
                have h66_ : v138 = (Bo β2) := hF.2.1
                clear hF
                obtain rfl := h66_
                refine doesG_g (b := β2) rfl (yld rfl rfl) (fun hg1 => ?_) (fun hc => ⟨fun hg1 => absurd hg1 hc, Ext.refl _⟩)
                obtain rfl := h68_ hg1
                refine (does_fcmp (.inl rfl) (ev rfl) (ev rfl)).mono ?_; rintro _ _ ⟨rfl, rfl⟩
                exact ⟨fun _ => (by first | rfl | (show _ = _; simp only [hβ3]; done) | (show _ = _; simp only [hβ3]; rfl)), Ext.refl _⟩
              refine RW_d _ rfl (fun v => by dsimp only [List.set]; try rfl) (fun u hu hF => ?_) (fun v142 => ?_)
              · have h66_ : v138 = (Bo β2) := hF.1
                have h69_ : β2 = true → v141 = (Bo β3) := hF.2.1
                clear hF
                refine doesG_un rfl ?_
                skip
                obtain rfl := h66_
                refine (does_pick (b := β2) (u := v141) (v := (Bo false)) (ev rfl) (ev rfl) (ev rfl)).mono ?_; rintro _ _ ⟨rfl, rfl⟩; refine ⟨?_, Ext.refl _⟩; skip
                cases hbb : β2
                all_goals first | (show _ = _; simp only [↓reduceIte, Bool.true_and, Bool.false_and, Bool.true_or, Bool.false_or, Bool.false_eq_true]; done) | (have e_ := h69_ hbb; subst e_; show _ = _; simp only [↓reduceIte, Bool.true_and, Bool.false_and, Bool.true_or, Bool.false_or, Bool.false_eq_true]; done) | rfl | (have e_ := h69_ hbb; subst e_; rfl) | (simp [hbb] at h69_ ⊢; first | done | rfl | (subst h69_; rfl) | simp_all) | (simp [hbb] at h69_ ⊢; done)
              refine RW_d _ rfl (fun v => by dsimp only [List.set]; try rfl) (fun u hu hF => ?_) (fun v143 => ?_)
              · have h70_ : v142 = (Bo (β2 && β3)) := hF.1
                clear hF
                refine doesG_un rfl ?_
                obtain rfl := h70_
                refine (does_move (u := (Bo (β2 && β3))) (ev rfl)).mono ?_; rintro _ _ ⟨rfl, rfl⟩
                exact ⟨rfl, Ext.refl _⟩
              refine RW_d _ rfl (fun v => by dsimp only [List.set]; try rfl) (fun u hu hF => ?_) (fun v144 => ?_)
              · have h71_ : v143 = (Bo (β2 && β3)) := hF.1
                clear hF
                obtain rfl := h71_
                refine doesG_g (b := (β2 && β3)) rfl (yld rfl rfl) (fun hg1 => ?_) (fun hc => ⟨fun hg1 => absurd hg1 hc, Ext.refl _⟩)
                refine (does_fieldAddr (ev rfl) fa32_2).mono ?_; rintro _ _ ⟨rfl, rfl⟩
                exact ⟨fun _ => rfl, Ext.refl _⟩
              refine RW_d _ rfl (fun v => by dsimp only [List.set]; try rfl) (fun u hu hF => ?_) (fun v145 => ?_)
              · have h72_ : (β2 && β3) = true → v144 = (Pt b124 2) := hF.1
                have h71_ : v143 = (Bo (β2 && β3)) := hF.2.1
                clear hF
                obtain rfl := h71_
                refine doesG_g (b := (β2 && β3)) rfl (yld rfl rfl) (fun hg1 => ?_) (fun hc => ⟨fun hg1 => absurd hg1 hc, Ext.refl _⟩)
                obtain rfl := h72_ hg1
                refine (does_load (u := (Fl r122)) (ev rfl) Try.isAgg22 (Cells.at (Blk.cells (hB130.ext hu)) 2 rfl)).mono ?_; rintro _ _ ⟨rfl, rfl⟩
                exact ⟨fun _ => rfl, Ext.refl _⟩
              refine RW_d _ rfl (fun v => by dsimp only [List.set]; try rfl) (fun u hu hF => ?_) (fun v146 => ?_)
              · have h73_ : (β2 && β3) = true → v145 = (Fl r122) := hF.1
                have h71_ : v143 = (Bo (β2 && β3)) := hF.2.1
                clear hF
                obtain rfl := h71_
                refine doesG_g (b := (β2 && β3)) rfl (yld rfl rfl) (fun hg1 => ?_) (fun hc => ⟨fun hg1 => absurd hg1 hc, Ext.refl _⟩)
                obtain rfl := h73_ hg1
                refine (does_fcmp (.inl rfl) (ev rfl) (ev rfl)).mono ?_; rintro _ _ ⟨rfl, rfl⟩
                exact ⟨fun _ => (by first | rfl | (show _ = _; simp only [hβ4]; done) | (show _ = _; simp only [hβ4]; rfl)), Ext.refl _⟩
              refine RW_d _ rfl (fun v => by dsimp only [List.set]; try rfl) (fun u hu hF => ?_) (fun v147 => ?_)
              · have h71_ : v143 = (Bo (β2 && β3)) := hF.1
                have h74_ : (β2 && β3) = true → v146 = (Bo β4) := hF.2.1
                clear hF
                refine doesG_un rfl ?_
                skip
                obtain rfl := h71_
                refine (does_pick (b := (β2 && β3)) (u := v146) (v := (Bo false)) (ev rfl) (ev rfl) (ev rfl)).mono ?_; rintro _ _ ⟨rfl, rfl⟩; refine ⟨?_, Ext.refl _⟩; skip
                cases hbb : (β2 && β3)
                all_goals first | (show _ = _; simp only [↓reduceIte, Bool.true_and, Bool.false_and, Bool.true_or, Bool.false_or, Bool.false_eq_true]; done) | (have e_ := h74_ hbb; subst e_; show _ = _; simp only [↓reduceIte, Bool.true_and, Bool.false_and, Bool.true_or, Bool.false_or, Bool.false_eq_true]; done) | rfl | (have e_ := h74_ hbb; subst e_; rfl) | (simp [hbb] at h74_ ⊢; first | done | rfl | (subst h74_; rfl) | simp_all) | (simp [hbb] at h74_ ⊢; done)
              refine RW_fin ?_; intro w148 E149 hP150
              obtain ⟨⟨⟨⟨⟨⟨⟨⟨⟨⟨⟨⟨⟨-, -⟩, -⟩, -⟩, -⟩, -⟩, -⟩, -⟩, -⟩, -⟩, -⟩, -⟩, -⟩, q151⟩ := hP150
              have X152 := Ext.gr X132 E149
              have q151 : v147 = (Bo ((β2 && β3) && β4)) := q151
              obtain rfl := q151
              show wpList _ _ _ _ (fr [_, _, _, _, _, _, _, _, _, _, _, _, _, _, _, _, _, _, _, _, _, _, _, _, _, _, _, _, _, _, _, _, _, _, _, _, _, _, _, _, _, _, _, _, _, _, _, _, _, _, _, _, _, _, _, _, _, _, _, _, _, _, _, _, _, _, _, _, _, _, _, _, _, _, _, _, _, _, _, _, _, _, _, _, _, _, _, _, _, _, _, _, _, _, _, _, _, _, _, _]) _
              refine wpList_nil (hK134 _ _ ?_)
              refine wp_cond_split (t := (β2 && β3) && β4) (ev rfl) (fun c153 => ?_) (fun c153 => ?_)
              · have c153' := c153
                (try simp only [hβ1, hβ2, hβ3, hβ4] at c153')
                (try simp only [icmp, Bool.and_eq_true, Bool.or_eq_true, Bool.and_eq_false_iff, Bool.or_eq_false_iff, Bool.not_eq_true', Bool.not_eq_false', decide_eq_true_eq, decide_eq_false_iff_not, beq_iff_eq, bne_iff_ne, beq_eq_false_iff_ne, bne_eq_false_iff_eq] at c153')
                simp only [hβ1, h90, hel1, hel2, h119, h121, h123, hβ2, hβ3, hβ4] at c153
                have hzv : zeroV (unitF (vsub el1 el2)) = true := c153
                refine wp_region_lit ?_
                refine q_is rfl rfl (does_build (parts' := [(0, (Fl 1065353216))]) (cells := #[(Fl 1065353216), (Fl 0), (Fl 0)]) (evp rfl) (by kernel_rfl)) (by dsimp only [List.set]; try rfl) ?_
                refine seqn rfl rfl (does_store (n := 3) (cs := [(Fl r118), (Fl r120), (Fl r122)]) (u := (.agg #[(Fl 1065353216), (Fl 0), (Fl 0)])) (ev rfl) (ev rfl) Try.sizeOf32 rfl (hB130.ext E149) (Nat.le_of_ble_eq_true rfl) rfl) ?_; rintro _ w156 ⟨rfl, W154, hB155⟩
                change Blk _ _ [(Fl 1065353216), (Fl 0), (Fl 0)] at hB155
                have X157 := Below.wr X152 W154 g128
                refine wpList_nil (hK133 _ _ ?_)
                refine wp_seq_k fun K158 hK158 => ?_
                refine wp_region_lit ?_
                refine q_is rfl rfl (does_loadAgg (cs := [(Fl 1065353216), (Fl 0), (Fl 0)]) (ev rfl) Try.isAgg32 Try.sizeOf32 (Blk.cells hB155) rfl) (by dsimp only [List.set]; try rfl) ?_
                refine q_is rfl rfl (does_move (u := (Fl r89)) (ev rfl)) (by dsimp only [List.set]; try rfl) ?_
                refine seqd rfl rfl (does_float (.inr (.inr (.inl rfl))) (ev rfl) (ev rfl)) ?_; rintro _ w162 ⟨r159, rfl, h160, E161⟩
                have X163 := Ext.gr X157 E161
                show wpList _ _ _ _ (fr [_, _, _, _, _, _, _, _, _, _, _, _, _, _, _, _, _, _, _, _, _, _, _, _, _, _, _, _, _, _, _, _, _, _, _, _, _, _, _, _, _, _, _, _, _, _, _, _, _, _, _, _, _, _, _, _, _, _, _, _, _, _, _, _, _, _, _, _, _, _, _, _, _, _, _, _, _, _, _, _, _, _, _, _, _, _, _, _, _, _, _, _, _, _, _, _, _, _, _, _]) _
                refine seqd rfl rfl (does_call (args := #[(.agg #[(Fl 1065353216), (Fl 0), (Fl 0)]), (Fl r159)]) cal55 (evs rfl) (c_spec_l01Scale [(Fl 1065353216), (Fl 0), (Fl 0)] (V3.mk (cf .f32 1065353216) (cf .f32 0) (cf .f32 0)) r159 _ ⟨1065353216, 0, 0, rfl, rfl, rfl, rfl⟩)) ?_; rintro _ w165 ⟨E164, ⟨_, rfl, ⟨r166, r168, r170, rfl, h167, h169, h171⟩⟩⟩
                have X172 := Ext.gr X163 E164
                show wpList _ _ _ _ (fr [_, _, _, _, _, _, _, _, _, _, _, _, _, _, _, _, _, _, _, _, _, _, _, _, _, _, _, _, _, _, _, _, _, _, _, _, _, _, _, _, _, _, _, _, _, _, _, _, _, _, _, _, _, _, _, _, _, _, _, _, _, _, _, _, _, _, _, _, _, _, _, _, _, _, _, _, _, _, _, _, _, _, _, _, _, _, _, _, _, _, _, _, _, _, _, _, _, _, _, _]) _
                refine seqn rfl rfl (does_store (n := 3) (cs := [(Fl 1065353216), (Fl 0), (Fl 0)]) (u := (.agg #[(Fl r166), (Fl r168), (Fl r170)])) (ev rfl) (ev rfl) Try.sizeOf32 rfl ((hB155.ext E161).ext E164) (Nat.le_of_ble_eq_true rfl) rfl) ?_; rintro _ w175 ⟨rfl, W173, hB174⟩
                change Blk _ _ [(Fl r166), (Fl r168), (Fl r170)] at hB174
                have X176 := Below.wr X172 W173 g128
                refine wpList_nil (hK158 _ _ ?_)
                refine wp_seq_k fun K177 hK177 => ?_
                refine region_draw (
                  [Fact.pure [] (fun v => v = (.slice (some ⟨gr45, 0, none⟩) L_ctr.length q41)),
    Fact.pure [] (fun v => v = (Iv (i : Int))),
    Fact.pure [] (fun v => v = (.slice (some ⟨gr45, 0, none⟩) L_ctr.length q41)),
    Fact.pure [] (fun v => v = (Iv (i : Int))),
    Fact.pure [83, 84] (fun v => v = (Pt gr45 (i * 3))),
    Fact.pure [85] (fun v => ∃ cs_1 : List Value, v = (.agg cs_1.toArray) ∧ RV3 w el2 cs_1),
    Fact.pure [] (fun v => v = (.agg #[(Fl r166), (Fl r168), (Fl r170)])),
    Fact.pure [86, 87] (fun v => ∃ cs_1 : List Value, v = (.agg cs_1.toArray) ∧ RV3 w (vsub el2 (vscale (V3.mk (cf .f32 1065353216) (cf .f32 0) (cf .f32 0)) (cf .f32 r159))) cs_1),
    Fact.pure [81, 82] (fun v => v = (Pt gr45 (i * 3)))]) mixed (by kernel_rfl) (by intro _ _ d _ _ h; cases d <;> exact h) ?_
                obtain ⟨w178, hw180⟩ : ∃ w', w' = World.drew w175 := ⟨_, rfl⟩; rw [← hw180]; have E179 : Ext w175 w178 := by rw [hw180]; exact Ext.draw _
                clear hw180
                have X181 := Ext.gr X176 E179
                refine RW_d _ rfl (fun v => by dsimp only [List.set]; try rfl) (fun u hu hF => ?_) (fun v182 => ?_)
                · clear hF
                  refine doesG_un rfl ?_
                  refine (does_move (u := (.slice (some ⟨gr45, 0, none⟩) L_ctr.length q41)) (ev rfl)).mono ?_; rintro _ _ ⟨rfl, rfl⟩
                  exact ⟨rfl, Ext.refl _⟩
                refine RW_d _ rfl (fun v => by dsimp only [List.set]; try rfl) (fun u hu hF => ?_) (fun v183 => ?_)
                · clear hF
                  refine doesG_un rfl ?_
                  refine (does_move (u := (Iv (i : Int))) (ev rfl)).mono ?_; rintro _ _ ⟨rfl, rfl⟩
                  exact ⟨rfl, Ext.refl _⟩
                refine RW_d _ rfl (fun v => by dsimp only [List.set]; try rfl) (fun u hu hF => ?_) (fun v184 => ?_)
                · clear hF
                  refine doesG_un rfl ?_
                  refine (does_move (u := (.slice (some ⟨gr45, 0, none⟩) L_ctr.length q41)) (ev rfl)).mono ?_; rintro _ _ ⟨rfl, rfl⟩
                  exact ⟨rfl, Ext.refl _⟩
                refine RW_d _ rfl (fun v => by dsimp only [List.set]; try rfl) (fun u hu hF => ?_) (fun v185 => ?_)
                · clear hF
                  refine doesG_un rfl ?_
                  refine (does_move (u := (Iv (i : Int))) (ev rfl)).mono ?_; rintro _ _ ⟨rfl, rfl⟩
                  exact ⟨rfl, Ext.refl _⟩
                refine RW_d _ rfl (fun v => by dsimp only [List.set]; try rfl) (fun u hu hF => ?_) (fun v186 => ?_)
                · have h83_ : v184 = (.slice (some ⟨gr45, 0, none⟩) L_ctr.length q41) := hF.1
                  have h84_ : v185 = (Iv (i : Int)) := hF.2.1
                  clear hF
                  refine doesG_un rfl ?_
                  obtain rfl := h83_
                  obtain rfl := h84_
                  refine (does_indexOwn (b := gr45) (n := L_ctr.length) (i := (i : Int)) Try.underlying47 Try.sizeOf32 (ev rfl) (ev rfl) (by omega) (by omega)).mono ?_; rintro _ _ ⟨rfl, rfl⟩
                  exact ⟨rfl, Ext.refl _⟩
                refine RW_d _ rfl (fun v => by dsimp only [List.set]; try rfl) (fun u hu hF => ?_) (fun v187 => ?_)
                · have h85_ : v186 = (Pt gr45 (i * 3)) := hF.1
                  clear hF
                  refine doesG_un rfl ?_
                  obtain rfl := h85_
                  refine (does_loadRowG (R := RV3) (k := 3) (xs := ((pairsTo L_ctr.length i ++ rowP i j).foldl (partB L_rad) (prN L_rad L_ctr k))) (i := i) (e := el2) (ev rfl) Try.isAgg32 Try.sizeOf32 (RowG.ext (RowG.ext (RowG.kl (RowG.ext (RowG.ext (RowG.kl (RowG.ext (RowG.kl (RowG.ext (RowG.ext (RowG.ext hR81 RV3.flat E87) RV3.flat E98) RV3.flat E113) RV3.flat (KpL.of_wr W129) (ninS (Nat.ne_of_lt n127) nin0)) RV3.flat E149) RV3.flat (KpL.of_wr W154) (ninS (Nat.ne_of_lt n127) nin0)) RV3.flat E161) RV3.flat E164) RV3.flat (KpL.of_wr W173) (ninS (Nat.ne_of_lt n127) nin0)) RV3.flat E179) RV3.flat hu) rfl hel2).mono ?_; rintro v u' ⟨hx, ⟨csn1, hv, k0⟩⟩
                  exact ⟨⟨csn1, hv, k0⟩, hx⟩
                refine RW_d _ rfl (fun v => by dsimp only [List.set]; try rfl) (fun u hu hF => ?_) (fun v188 => ?_)
                · clear hF
                  refine doesG_un rfl ?_
                  refine (does_loadAgg (cs := [(Fl r166), (Fl r168), (Fl r170)]) (ev rfl) Try.isAgg32 Try.sizeOf32 (Blk.cells ((hB174.ext E179).ext hu)) rfl).mono ?_; rintro _ _ ⟨rfl, rfl⟩
                  exact ⟨rfl, Ext.refl _⟩
                refine RW_d _ rfl (fun v => by dsimp only [List.set]; try rfl) (fun u hu hF => ?_) (fun v189 => ?_)
                · have h86_ : ∃ cs_1 : List Value, v187 = (.agg cs_1.toArray) ∧ RV3 w el2 cs_1 := hF.1
                  have h87_ : v188 = (.agg #[(Fl r166), (Fl r168), (Fl r170)]) := hF.2.1
                  clear hF
                  refine doesG_un rfl ?_
                  obtain ⟨_, rfl, ⟨r86_1, r86_3, r86_5, rfl, h86_2, h86_4, h86_6⟩⟩ := h86_
                  obtain rfl := h87_
                  refine (does_call (args := #[(.agg #[(Fl r86_1), (Fl r86_3), (Fl r86_5)]), (.agg #[(Fl r166), (Fl r168), (Fl r170)])]) cal54 (evs rfl) (c_spec_l01Less [(Fl r86_1), (Fl r86_3), (Fl r86_5)] el2 [(Fl r166), (Fl r168), (Fl r170)] (vscale (V3.mk (cf .f32 1065353216) (cf .f32 0) (cf .f32 0)) (cf .f32 r159)) _ ⟨r86_1, r86_3, r86_5, rfl, (by assumption), (by assumption), (by assumption)⟩ ⟨r166, r168, r170, rfl, h167, h169, h171⟩)).mono ?_; rintro v u' ⟨hx, ⟨csn1, hv, k0⟩⟩
                  exact ⟨⟨csn1, hv.trans (by simp only [h86_2, h86_4, h86_6]), (by first | exact k0 | simpa only [h86_2, h86_4, h86_6] using RV3.any (w := w) k0)⟩, hx⟩
                refine RW_d _ rfl (fun v => by dsimp only [List.set]; try rfl) (fun u hu hF => ?_) (fun v190 => ?_)
                · have h81_ : v182 = (.slice (some ⟨gr45, 0, none⟩) L_ctr.length q41) := hF.1
                  have h82_ : v183 = (Iv (i : Int)) := hF.2.1
                  clear hF
                  refine doesG_un rfl ?_
                  obtain rfl := h81_
                  obtain rfl := h82_
                  refine (does_indexOwn (b := gr45) (n := L_ctr.length) (i := (i : Int)) Try.underlying47 Try.sizeOf32 (ev rfl) (ev rfl) (by omega) (by omega)).mono ?_; rintro _ _ ⟨rfl, rfl⟩
                  exact ⟨rfl, Ext.refl _⟩
                refine RW_fin ?_; intro w191 E192 hP193
                obtain ⟨⟨⟨⟨⟨⟨⟨⟨⟨-, -⟩, -⟩, -⟩, -⟩, -⟩, -⟩, -⟩, q194⟩, q195⟩ := hP193
                have X196 := Ext.gr X181 E192
                have q194 : ∃ cs_1 : List Value, v189 = (.agg cs_1.toArray) ∧ RV3 w (vsub el2 (vscale (V3.mk (cf .f32 1065353216) (cf .f32 0) (cf .f32 0)) (cf .f32 r159))) cs_1 := q194
                obtain ⟨_, rfl, ⟨r197, r199, r201, rfl, h198, h200, h202⟩⟩ := q194
                have q195 : v190 = (Pt gr45 (i * 3)) := q195
                obtain rfl := q195
                show wpList _ _ _ _ (fr [_, _, _, _, _, _, _, _, _, _, _, _, _, _, _, _, _, _, _, _, _, _, _, _, _, _, _, _, _, _, _, _, _, _, _, _, _, _, _, _, _, _, _, _, _, _, _, _, _, _, _, _, _, _, _, _, _, _, _, _, _, _, _, _, _, _, _, _, _, _, _, _, _, _, _, _, _, _, _, _, _, _, _, _, _, _, _, _, _, _, _, _, _, _, _, _, _, _, _, _]) _
                refine seqn rfl rfl (does_storeRowG (R := RV3) (k := 3) (xs := ((pairsTo L_ctr.length i ++ rowP i j).foldl (partB L_rad) (prN L_rad L_ctr k))) (i := i) (u := (.agg #[(Fl r197), (Fl r199), (Fl r201)])) (e := (vsub el2 (vscale (V3.mk (cf .f32 1065353216) (cf .f32 0) (cf .f32 0)) (cf .f32 r159)))) (ev rfl) (ev rfl) Try.sizeOf32 rfl rfl RV3.flat (RowG.ext (RowG.ext (RowG.kl (RowG.ext (RowG.ext (RowG.kl (RowG.ext (RowG.kl (RowG.ext (RowG.ext (RowG.ext hR81 RV3.flat E87) RV3.flat E98) RV3.flat E113) RV3.flat (KpL.of_wr W129) (ninS (Nat.ne_of_lt n127) nin0)) RV3.flat E149) RV3.flat (KpL.of_wr W154) (ninS (Nat.ne_of_lt n127) nin0)) RV3.flat E161) RV3.flat E164) RV3.flat (KpL.of_wr W173) (ninS (Nat.ne_of_lt n127) nin0)) RV3.flat E179) RV3.flat E192) rfl (by first | assumption | omega | (simp only [foldP_len, prN_len, List.length_set, List.length_replicate]; omega) | (simp only [foldP_len, prN_len, List.length_set, List.length_replicate]; done)) ⟨r197, r199, r201, rfl, h198, h200, h202⟩) ?_; rintro _ w205 ⟨rfl, W203, hR204⟩
                have X206 := Below.wr X196 W203 g52
                refine wpList_nil (hK177 _ _ ?_)
                obtain ⟨el3, hel3⟩ : ∃ e, (((pairsTo L_ctr.length i ++ rowP i j).foldl (partB L_rad) (prN L_rad L_ctr k)).set i (vsub el2 (vscale (V3.mk (cf .f32 1065353216) (cf .f32 0) (cf .f32 0)) (cf .f32 r159))))[j]? = some e := ⟨_, List.getElem?_eq_getElem (by first | assumption | omega | (simp only [foldP_len, prN_len, List.length_set, List.length_replicate]; omega) | (simp only [foldP_len, prN_len, List.length_set, List.length_replicate]; done))⟩
                refine region_draw (
                  [Fact.pure [] (fun v => v = (.slice (some ⟨gr45, 0, none⟩) L_ctr.length q41)),
    Fact.pure [] (fun v => v = (Iv (j : Int))),
    Fact.pure [] (fun v => v = (.slice (some ⟨gr45, 0, none⟩) L_ctr.length q41)),
    Fact.pure [] (fun v => v = (Iv (j : Int))),
    Fact.pure [92, 93] (fun v => v = (Pt gr45 (j * 3))),
    Fact.pure [94] (fun v => ∃ cs_1 : List Value, v = (.agg cs_1.toArray) ∧ RV3 w el3 cs_1),
    Fact.pure [] (fun v => v = (.agg #[(Fl r166), (Fl r168), (Fl r170)])),
    Fact.pure [95, 96] (fun v => ∃ cs_1 : List Value, v = (.agg cs_1.toArray) ∧ RV3 w (vadd el3 (vscale (V3.mk (cf .f32 1065353216) (cf .f32 0) (cf .f32 0)) (cf .f32 r159))) cs_1),
    Fact.pure [90, 91] (fun v => v = (Pt gr45 (j * 3)))]) mixed (by kernel_rfl) (by intro _ _ d _ _ h; cases d <;> exact h) ?_
                obtain ⟨w207, hw209⟩ : ∃ w', w' = World.drew w205 := ⟨_, rfl⟩; rw [← hw209]; have E208 : Ext w205 w207 := by rw [hw209]; exact Ext.draw _
                clear hw209
                have X210 := Ext.gr X206 E208
                refine RW_d _ rfl (fun v => by dsimp only [List.set]; try rfl) (fun u hu hF => ?_) (fun v211 => ?_)
                · clear hF
                  refine doesG_un rfl ?_
                  refine (does_move (u := (.slice (some ⟨gr45, 0, none⟩) L_ctr.length q41)) (ev rfl)).mono ?_; rintro _ _ ⟨rfl, rfl⟩
                  exact ⟨rfl, Ext.refl _⟩
                refine RW_d _ rfl (fun v => by dsimp only [List.set]; try rfl) (fun u hu hF => ?_) (fun v212 => ?_)
                · clear hF
                  refine doesG_un rfl ?_
                  refine (does_move (u := (Iv (j : Int))) (ev rfl)).mono ?_; rintro _ _ ⟨rfl, rfl⟩
                  exact ⟨rfl, Ext.refl _⟩
                refine RW_d _ rfl (fun v => by dsimp only [List.set]; try rfl) (fun u hu hF => ?_) (fun v213 => ?_)
                · clear hF
                  refine doesG_un rfl ?_
                  refine (does_move (u := (.slice (some ⟨gr45, 0, none⟩) L_ctr.length q41)) (ev rfl)).mono ?_; rintro _ _ ⟨rfl, rfl⟩
                  exact ⟨rfl, Ext.refl _⟩
                refine RW_d _ rfl (fun v => by dsimp only [List.set]; try rfl) (fun u hu hF => ?_) (fun v214 => ?_)
                · clear hF
                  refine doesG_un rfl ?_
                  refine (does_move (u := (Iv (j : Int))) (ev rfl)).mono ?_; rintro _ _ ⟨rfl, rfl⟩
                  exact ⟨rfl, Ext.refl _⟩
                refine RW_d _ rfl (fun v => by dsimp only [List.set]; try rfl) (fun u hu hF => ?_) (fun v215 => ?_)
                · have h92_ : v213 = (.slice (some ⟨gr45, 0, none⟩) L_ctr.length q41) := hF.1
                  have h93_ : v214 = (Iv (j : Int)) := hF.2.1
                  clear hF
                  refine doesG_un rfl ?_
                  obtain rfl := h92_
                  obtain rfl := h93_
                  refine (does_indexOwn (b := gr45) (n := L_ctr.length) (i := (j : Int)) Try.underlying47 Try.sizeOf32 (ev rfl) (ev rfl) (by omega) (by omega)).mono ?_; rintro _ _ ⟨rfl, rfl⟩
                  exact ⟨rfl, Ext.refl _⟩
                refine RW_d _ rfl (fun v => by dsimp only [List.set]; try rfl) (fun u hu hF => ?_) (fun v216 => ?_)
                · have h94_ : v215 = (Pt gr45 (j * 3)) := hF.1
                  clear hF
                  refine doesG_un rfl ?_
                  obtain rfl := h94_
                  refine (does_loadRowG (R := RV3) (k := 3) (xs := (((pairsTo L_ctr.length i ++ rowP i j).foldl (partB L_rad) (prN L_rad L_ctr k)).set i (vsub el2 (vscale (V3.mk (cf .f32 1065353216) (cf .f32 0) (cf .f32 0)) (cf .f32 r159))))) (i := j) (e := el3) (ev rfl) Try.isAgg32 Try.sizeOf32 (RowG.ext (RowG.ext hR204 RV3.flat E208) RV3.flat hu) rfl hel3).mono ?_; rintro v u' ⟨hx, ⟨csn1, hv, k0⟩⟩
                  exact ⟨⟨csn1, hv, k0⟩, hx⟩
                refine RW_d _ rfl (fun v => by dsimp only [List.set]; try rfl) (fun u hu hF => ?_) (fun v217 => ?_)
                · clear hF
                  refine doesG_un rfl ?_
                  refine (does_loadAgg (cs := [(Fl r166), (Fl r168), (Fl r170)]) (ev rfl) Try.isAgg32 Try.sizeOf32 (Blk.cells (((((hB174.ext E179).ext E192).wr W203 (Nat.ne_of_gt n127)).ext E208).ext hu)) rfl).mono ?_; rintro _ _ ⟨rfl, rfl⟩
                  exact ⟨rfl, Ext.refl _⟩
                refine RW_d _ rfl (fun v => by dsimp only [List.set]; try rfl) (fun u hu hF => ?_) (fun v218 => ?_)
                · have h95_ : ∃ cs_1 : List Value, v216 = (.agg cs_1.toArray) ∧ RV3 w el3 cs_1 := hF.1
                  have h96_ : v217 = (.agg #[(Fl r166), (Fl r168), (Fl r170)]) := hF.2.1
                  clear hF
                  refine doesG_un rfl ?_
                  obtain ⟨_, rfl, ⟨r95_1, r95_3, r95_5, rfl, h95_2, h95_4, h95_6⟩⟩ := h95_
                  obtain rfl := h96_
                  refine (does_call (args := #[(.agg #[(Fl r95_1), (Fl r95_3), (Fl r95_5)]), (.agg #[(Fl r166), (Fl r168), (Fl r170)])]) cal56 (evs rfl) (c_spec_l01Add [(Fl r95_1), (Fl r95_3), (Fl r95_5)] el3 [(Fl r166), (Fl r168), (Fl r170)] (vscale (V3.mk (cf .f32 1065353216) (cf .f32 0) (cf .f32 0)) (cf .f32 r159)) _ ⟨r95_1, r95_3, r95_5, rfl, (by assumption), (by assumption), (by assumption)⟩ ⟨r166, r168, r170, rfl, h167, h169, h171⟩)).mono ?_; rintro v u' ⟨hx, ⟨csn1, hv, k0⟩⟩
                  exact ⟨⟨csn1, hv.trans (by simp only [h95_2, h95_4, h95_6]), (by first | exact k0 | simpa only [h95_2, h95_4, h95_6] using RV3.any (w := w) k0)⟩, hx⟩
                refine RW_d _ rfl (fun v => by dsimp only [List.set]; try rfl) (fun u hu hF => ?_) (fun v219 => ?_)
                · have h90_ : v211 = (.slice (some ⟨gr45, 0, none⟩) L_ctr.length q41) := hF.1
                  have h91_ : v212 = (Iv (j : Int)) := hF.2.1
                  clear hF
                  refine doesG_un rfl ?_
                  obtain rfl := h90_
                  obtain rfl := h91_
                  refine (does_indexOwn (b := gr45) (n := L_ctr.length) (i := (j : Int)) Try.underlying47 Try.sizeOf32 (ev rfl) (ev rfl) (by omega) (by omega)).mono ?_; rintro _ _ ⟨rfl, rfl⟩
                  exact ⟨rfl, Ext.refl _⟩
                refine RW_fin ?_; intro w220 E221 hP222
                obtain ⟨⟨⟨⟨⟨⟨⟨⟨⟨-, -⟩, -⟩, -⟩, -⟩, -⟩, -⟩, -⟩, q223⟩, q224⟩ := hP222
                have X225 := Ext.gr X210 E221
                have q223 : ∃ cs_1 : List Value, v218 = (.agg cs_1.toArray) ∧ RV3 w (vadd el3 (vscale (V3.mk (cf .f32 1065353216) (cf .f32 0) (cf .f32 0)) (cf .f32 r159))) cs_1 := q223
                obtain ⟨_, rfl, ⟨r226, r228, r230, rfl, h227, h229, h231⟩⟩ := q223
                have q224 : v219 = (Pt gr45 (j * 3)) := q224
                obtain rfl := q224
                show wpList _ _ _ _ (fr [_, _, _, _, _, _, _, _, _, _, _, _, _, _, _, _, _, _, _, _, _, _, _, _, _, _, _, _, _, _, _, _, _, _, _, _, _, _, _, _, _, _, _, _, _, _, _, _, _, _, _, _, _, _, _, _, _, _, _, _, _, _, _, _, _, _, _, _, _, _, _, _, _, _, _, _, _, _, _, _, _, _, _, _, _, _, _, _, _, _, _, _, _, _, _, _, _, _, _, _]) _
                refine seqn rfl rfl (does_storeRowG (R := RV3) (k := 3) (xs := (((pairsTo L_ctr.length i ++ rowP i j).foldl (partB L_rad) (prN L_rad L_ctr k)).set i (vsub el2 (vscale (V3.mk (cf .f32 1065353216) (cf .f32 0) (cf .f32 0)) (cf .f32 r159))))) (i := j) (u := (.agg #[(Fl r226), (Fl r228), (Fl r230)])) (e := (vadd el3 (vscale (V3.mk (cf .f32 1065353216) (cf .f32 0) (cf .f32 0)) (cf .f32 r159)))) (ev rfl) (ev rfl) Try.sizeOf32 rfl rfl RV3.flat (RowG.ext (RowG.ext hR204 RV3.flat E208) RV3.flat E221) rfl (by first | assumption | omega | (simp only [foldP_len, prN_len, List.length_set, List.length_replicate]; omega) | (simp only [foldP_len, prN_len, List.length_set, List.length_replicate]; done)) ⟨r226, r228, r230, rfl, h227, h229, h231⟩) ?_; rintro _ w234 ⟨rfl, W232, hR233⟩
                have X235 := Below.wr X225 W232 g52
                refine wpList_nil (hK85 _ _ ?_)
                refine wp_region_lit ?_
                refine q_is rfl rfl (does_move (u := (Iv (j : Int))) (ev rfl)) (by dsimp only [List.set]; try rfl) ?_
                refine q_is rfl rfl (does_iarith (p := (j : Int)) (q := 1) (r := (j : Int) + 1) (ev rfl) (ev rfl) (.inl ⟨rfl, (in_i64 (by omega) (by omega)).symm⟩)) (by dsimp only [List.set]; try rfl) ?_
                refine q_is rfl rfl (does_assign (u := (Iv ((j : Int) + 1))) (ev rfl)) (by dsimp only [List.set]; try rfl) ?_
                refine wpList_nil ?_
                have hR236 := RowG.cast (ys := ((fun (j : Nat) => (pairsTo L_ctr.length i ++ rowP i j).foldl (partB L_rad) (prN L_rad L_ctr k)) (j + 1))) hR233 (by (try dsimp only); rw [rowP_succ hij, ← List.append_assoc, fold_snoc]; first | exact (partB_f (p := ((i : Int), (j : Int))) hxg).symm | exact partB_s (p := ((i : Int), (j : Int))) (by (try dsimp only); omega) hxg hel2 hel1 (by first | (rw [wayB_n hzv]; simp only [halfF, hβ1, h90, hel1, hel2, h119, h121, h123, hβ2, hβ3, hβ4, h160, h167, h169, h171, h198, h200, h202, hel3, h227, h229, h231]; done) | (rw [wayB_z hzv]; simp only [halfF, hβ1, h90, hel1, hel2, h119, h121, h123, hβ2, hβ3, hβ4, h160, h167, h169, h171, h198, h200, h202, hel3, h227, h229, h231]; done)) (by first | exact hel3 | exact hel4))
                refine ⟨j + 1, ⟨fun t => (([(.slice p_ctr L_ctr.length q_ctr), (.slice p_rad L_rad.length q_rad), (Iv rnd), Ud, Ud, Ud, (.slice none 0 0), (Bo false), (.slice (some ⟨gr45, 0, none⟩) L_ctr.length q41), (Iv (k : Int)), (Iv (i : Int)), (Iv ((j : Int) + 1)), (Fl r89), (Pt b124 0), v4, v5, v6, v7, v8, v9, v10, v11, (Bo β1), (.slice (some ⟨b23, 0, none⟩) 0 0), (.slice p_ctr L_ctr.length q_ctr), (.slice (some ⟨gr45, 0, none⟩) L_ctr.length q41), (Iv (k : Int)), (Iv rnd), (Bo (icmp .lss (k : Int) rnd)), (u54 29), (u54 30), (Iv (i : Int)), (.slice (some ⟨gr45, 0, none⟩) L_ctr.length q41), (Iv (L_ctr.length : Int)), (Bo (icmp .lss (i : Int) (L_ctr.length : Int))), (u65 35), (u65 36), (Iv (i : Int)), (Iv ((i : Int) + 1)), (Iv (j : Int)), (.slice (some ⟨gr45, 0, none⟩) L_ctr.length q41), (Iv (L_ctr.length : Int)), (Bo (icmp .lss (j : Int) (L_ctr.length : Int))), (Iv (j : Int)), (Iv ((j : Int) + 1)), (.slice (some ⟨gr45, 0, none⟩) L_ctr.length q41), (.slice p_rad L_rad.length q_rad), (Iv (i : Int)), (Iv (j : Int)), (Fl r89), (Fl r89), (Bo (fcmp .gtr (ford .f32 (cf .f32 r89) (cf .f32 0)))), (Bo (!(fcmp .gtr (ford .f32 (cf .f32 r89) (cf .f32 0))))), v101, v102, v103, v104, v105, v106, v107, v108, v109, (.agg #[(Fl r118), (Fl r120), (Fl r122)]), v135, v136, v137, v138, v139, v140, v141, v142, v143, v144, v145, v146, (Bo ((β2 && β3) && β4)), (.agg #[(Fl 1065353216), (Fl 0), (Fl 0)]), (.agg #[(Fl 1065353216), (Fl 0), (Fl 0)]), (Fl r89), (Fl r159), (.agg #[(Fl r166), (Fl r168), (Fl r170)]), v182, v183, v184, v185, v186, v187, v188, (.agg #[(Fl r197), (Fl r199), (Fl r201)]), (Pt gr45 (i * 3)), v211, v212, v213, v214, v215, v216, v217, (.agg #[(Fl r226), (Fl r228), (Fl r230)]), (Pt gr45 (j * 3)), Ud] : List Value)[t]?).getD undef, ?_, (KpL.more (KpL.ext (KpL.ext (KpL.more (KpL.ext (KpL.ext (KpL.more (KpL.ext (KpL.ext (KpL.more (KpL.ext (KpL.more (KpL.ext (KpL.ext (KpL.ext E78 E87) E98) E113) (KpL.of_wr W129) (allS (.inr (Nat.le_trans (KpL.ext E78 E87).size hb125)) all0)) E149) (KpL.of_wr W154) (allS (.inr (Nat.le_trans (KpL.ext E78 E87).size hb125)) all0)) E161) E164) (KpL.of_wr W173) (allS (.inr (Nat.le_trans (KpL.ext E78 E87).size hb125)) all0)) E179) E192) (KpL.of_wr W203) (allS (.inl (by simp)) all0)) E208) E221) (KpL.of_wr W232) (allS (.inl (by simp)) all0)), hR236, ?_⟩, ?_⟩
                · first | rfl | (simp only [Nat.cast_add, Nat.cast_one, Int.natCast_add, Int.natCast_one]; rfl)
                · (try dsimp only); exact ⟨by omega, by omega⟩
                · (try dsimp only); omega
              have c153' := c153
              (try simp only [hβ1, hβ2, hβ3, hβ4] at c153')
              (try simp only [icmp, Bool.and_eq_true, Bool.or_eq_true, Bool.and_eq_false_iff, Bool.or_eq_false_iff, Bool.not_eq_true', Bool.not_eq_false', decide_eq_true_eq, decide_eq_false_iff_not, beq_iff_eq, bne_iff_ne, beq_eq_false_iff_ne, bne_eq_false_iff_eq] at c153')
              simp only [hβ1, h90, hel1, hel2, h119, h121, h123, hβ2, hβ3, hβ4] at c153
              have hzv : zeroV (unitF (vsub el1 el2)) = false := c153
              refine wp_skip (hK133 _ _ ?_)
              refine wp_seq_k fun K237 hK237 => ?_
              refine wp_region_lit ?_
              refine q_is rfl rfl (does_loadAgg (cs := [(Fl r118), (Fl r120), (Fl r122)]) (ev rfl) Try.isAgg32 Try.sizeOf32 (Blk.cells (hB130.ext E149)) rfl) (by dsimp only [List.set]; try rfl) ?_
              refine q_is rfl rfl (does_move (u := (Fl r89)) (ev rfl)) (by dsimp only [List.set]; try rfl) ?_
              refine seqd rfl rfl (does_float (.inr (.inr (.inl rfl))) (ev rfl) (ev rfl)) ?_; rintro _ w241 ⟨r238, rfl, h239, E240⟩
              have X242 := Ext.gr X152 E240
              show wpList _ _ _ _ (fr [_, _, _, _, _, _, _, _, _, _, _, _, _, _, _, _, _, _, _, _, _, _, _, _, _, _, _, _, _, _, _, _, _, _, _, _, _, _, _, _, _, _, _, _, _, _, _, _, _, _, _, _, _, _, _, _, _, _, _, _, _, _, _, _, _, _, _, _, _, _, _, _, _, _, _, _, _, _, _, _, _, _, _, _, _, _, _, _, _, _, _, _, _, _, _, _, _, _, _, _]) _
              refine seqd rfl rfl (does_call (args := #[(.agg #[(Fl r118), (Fl r120), (Fl r122)]), (Fl r238)]) cal55 (evs rfl) (c_spec_l01Scale [(Fl r118), (Fl r120), (Fl r122)] (unitF (vsub el1 el2)) r238 _ ⟨r118, r120, r122, rfl, h119, h121, h123⟩)) ?_; rintro _ w244 ⟨E243, ⟨_, rfl, ⟨r245, r247, r249, rfl, h246, h248, h250⟩⟩⟩
              have X251 := Ext.gr X242 E243
              show wpList _ _ _ _ (fr [_, _, _, _, _, _, _, _, _, _, _, _, _, _, _, _, _, _, _, _, _, _, _, _, _, _, _, _, _, _, _, _, _, _, _, _, _, _, _, _, _, _, _, _, _, _, _, _, _, _, _, _, _, _, _, _, _, _, _, _, _, _, _, _, _, _, _, _, _, _, _, _, _, _, _, _, _, _, _, _, _, _, _, _, _, _, _, _, _, _, _, _, _, _, _, _, _, _, _, _]) _
              refine seqn rfl rfl (does_store (n := 3) (cs := [(Fl r118), (Fl r120), (Fl r122)]) (u := (.agg #[(Fl r245), (Fl r247), (Fl r249)])) (ev rfl) (ev rfl) Try.sizeOf32 rfl (((hB130.ext E149).ext E240).ext E243) (Nat.le_of_ble_eq_true rfl) rfl) ?_; rintro _ w254 ⟨rfl, W252, hB253⟩
              change Blk _ _ [(Fl r245), (Fl r247), (Fl r249)] at hB253
              have X255 := Below.wr X251 W252 g128
              refine wpList_nil (hK237 _ _ ?_)
              refine wp_seq_k fun K256 hK256 => ?_
              refine region_draw (
                [Fact.pure [] (fun v => v = (.slice (some ⟨gr45, 0, none⟩) L_ctr.length q41)),
    Fact.pure [] (fun v => v = (Iv (i : Int))),
    Fact.pure [] (fun v => v = (.slice (some ⟨gr45, 0, none⟩) L_ctr.length q41)),
    Fact.pure [] (fun v => v = (Iv (i : Int))),
    Fact.pure [83, 84] (fun v => v = (Pt gr45 (i * 3))),
    Fact.pure [85] (fun v => ∃ cs_1 : List Value, v = (.agg cs_1.toArray) ∧ RV3 w el2 cs_1),
    Fact.pure [] (fun v => v = (.agg #[(Fl r245), (Fl r247), (Fl r249)])),
    Fact.pure [86, 87] (fun v => ∃ cs_1 : List Value, v = (.agg cs_1.toArray) ∧ RV3 w (vsub el2 (vscale (unitF (vsub el1 el2)) (cf .f32 r238))) cs_1),
    Fact.pure [81, 82] (fun v => v = (Pt gr45 (i * 3)))]) mixed (by kernel_rfl) (by intro _ _ d _ _ h; cases d <;> exact h) ?_
              obtain ⟨w257, hw259⟩ : ∃ w', w' = World.drew w254 := ⟨_, rfl⟩; rw [← hw259]; have E258 : Ext w254 w257 := by rw [hw259]; exact Ext.draw _
              clear hw259
              have X260 := Ext.gr X255 E258
              refine RW_d _ rfl (fun v => by dsimp only [List.set]; try rfl) (fun u hu hF => ?_) (fun v261 => ?_)
              · clear hF
                refine doesG_un rfl ?_
                refine (does_move (u := (.slice (some ⟨gr45, 0, none⟩) L_ctr.length q41)) (ev rfl)).mono ?_; rintro _ _ ⟨rfl, rfl⟩
                exact ⟨rfl, Ext.refl _⟩
              refine RW_d _ rfl (fun v => by dsimp only [List.set]; try rfl) (fun u hu hF => ?_) (fun v262 => ?_)
              · clear hF
                refine doesG_un rfl ?_
                refine (does_move (u := (Iv (i : Int))) (ev rfl)).mono ?_; rintro _ _ ⟨rfl, rfl⟩
                exact ⟨rfl, Ext.refl _⟩
              refine RW_d _ rfl (fun v => by dsimp only [List.set]; try rfl) (fun u hu hF => ?_) (fun v263 => ?_)
              · clear hF
                refine doesG_un rfl ?_
                refine (does_move (u := (.slice (some ⟨gr45, 0, none⟩) L_ctr.length q41)) (ev rfl)).mono ?_; rintro _ _ ⟨rfl, rfl⟩
                exact ⟨rfl, Ext.refl _⟩
              refine RW_d _ rfl (fun v => by dsimp only [List.set]; try rfl) (fun u hu hF => ?_) (fun v264 => ?_)
              · clear hF
                refine doesG_un rfl ?_
                refine (does_move (u := (Iv (i : Int))) (ev rfl)).mono ?_; rintro _ _ ⟨rfl, rfl⟩
                exact ⟨rfl, Ext.refl _⟩
              refine RW_d _ rfl (fun v => by dsimp only [List.set]; try rfl) (fun u hu hF => ?_) (fun v265 => ?_)
              · have h83_ : v263 = (.slice (some ⟨gr45, 0, none⟩) L_ctr.length q41) := hF.1
                have h84_ : v264 = (Iv (i : Int)) := hF.2.1
                clear hF
                refine doesG_un rfl ?_
                obtain rfl := h83_
                obtain rfl := h84_
                refine (does_indexOwn (b := gr45) (n := L_ctr.length) (i := (i : Int)) Try.underlying47 Try.sizeOf32 (ev rfl) (ev rfl) (by omega) (by omega)).mono ?_; rintro _ _ ⟨rfl, rfl⟩
                exact ⟨rfl, Ext.refl _⟩
              refine RW_d _ rfl (fun v => by dsimp only [List.set]; try rfl) (fun u hu hF => ?_) (fun v266 => ?_)
              · have h85_ : v265 = (Pt gr45 (i * 3)) := hF.1
                clear hF
                refine doesG_un rfl ?_
                obtain rfl := h85_
                refine (does_loadRowG (R := RV3) (k := 3) (xs := ((pairsTo L_ctr.length i ++ rowP i j).foldl (partB L_rad) (prN L_rad L_ctr k))) (i := i) (e := el2) (ev rfl) Try.isAgg32 Try.sizeOf32 (RowG.ext (RowG.ext (RowG.kl (RowG.ext (RowG.ext (RowG.ext (RowG.kl (RowG.ext (RowG.ext (RowG.ext hR81 RV3.flat E87) RV3.flat E98) RV3.flat E113) RV3.flat (KpL.of_wr W129) (ninS (Nat.ne_of_lt n127) nin0)) RV3.flat E149) RV3.flat E240) RV3.flat E243) RV3.flat (KpL.of_wr W252) (ninS (Nat.ne_of_lt n127) nin0)) RV3.flat E258) RV3.flat hu) rfl hel2).mono ?_; rintro v u' ⟨hx, ⟨csn1, hv, k0⟩⟩
                exact ⟨⟨csn1, hv, k0⟩, hx⟩
              refine RW_d _ rfl (fun v => by dsimp only [List.set]; try rfl) (fun u hu hF => ?_) (fun v267 => ?_)
              · clear hF
                refine doesG_un rfl ?_
                refine (does_loadAgg (cs := [(Fl r245), (Fl r247), (Fl r249)]) (ev rfl) Try.isAgg32 Try.sizeOf32 (Blk.cells ((hB253.ext E258).ext hu)) rfl).mono ?_; rintro _ _ ⟨rfl, rfl⟩
                exact ⟨rfl, Ext.refl _⟩
              refine RW_d _ rfl (fun v => by dsimp only [List.set]; try rfl) (fun u hu hF => ?_) (fun v268 => ?_)
              · have h86_ : ∃ cs_1 : List Value, v266 = (.agg cs_1.toArray) ∧ RV3 w el2 cs_1 := hF.1
                have h87_ : v267 = (.agg #[(Fl r245), (Fl r247), (Fl r249)]) := hF.2.1
                clear hF
                refine doesG_un rfl ?_
                obtain ⟨_, rfl, ⟨r86_1, r86_3, r86_5, rfl, h86_2, h86_4, h86_6⟩⟩ := h86_
                obtain rfl := h87_
                refine (does_call (args := #[(.agg #[(Fl r86_1), (Fl r86_3), (Fl r86_5)]), (.agg #[(Fl r245), (Fl r247), (Fl r249)])]) cal54 (evs rfl) (c_spec_l01Less [(Fl r86_1), (Fl r86_3), (Fl r86_5)] el2 [(Fl r245), (Fl r247), (Fl r249)] (vscale (unitF (vsub el1 el2)) (cf .f32 r238)) _ ⟨r86_1, r86_3, r86_5, rfl, (by assumption), (by assumption), (by assumption)⟩ ⟨r245, r247, r249, rfl, h246, h248, h250⟩)).mono ?_; rintro v u' ⟨hx, ⟨csn1, hv, k0⟩⟩
                exact ⟨⟨csn1, hv.trans (by simp only [h86_2, h86_4, h86_6]), (by first | exact k0 | simpa only [h86_2, h86_4, h86_6] using RV3.any (w := w) k0)⟩, hx⟩
              refine RW_d _ rfl (fun v => by dsimp only [List.set]; try rfl) (fun u hu hF => ?_) (fun v269 => ?_)
              · have h81_ : v261 = (.slice (some ⟨gr45, 0, none⟩) L_ctr.length q41) := hF.1
                have h82_ : v262 = (Iv (i : Int)) := hF.2.1
                clear hF
                refine doesG_un rfl ?_
                obtain rfl := h81_
                obtain rfl := h82_
                refine (does_indexOwn (b := gr45) (n := L_ctr.length) (i := (i : Int)) Try.underlying47 Try.sizeOf32 (ev rfl) (ev rfl) (by omega) (by omega)).mono ?_; rintro _ _ ⟨rfl, rfl⟩
                exact ⟨rfl, Ext.refl _⟩
              refine RW_fin ?_; intro w270 E271 hP272
              obtain ⟨⟨⟨⟨⟨⟨⟨⟨⟨-, -⟩, -⟩, -⟩, -⟩, -⟩, -⟩, -⟩, q273⟩, q274⟩ := hP272
              have X275 := Ext.gr X260 E271
              have q273 : ∃ cs_1 : List Value, v268 = (.agg cs_1.toArray) ∧ RV3 w (vsub el2 (vscale (unitF (vsub el1 el2)) (cf .f32 r238))) cs_1 := q273
              obtain ⟨_, rfl, ⟨r276, r278, r280, rfl, h277, h279, h281⟩⟩ := q273
              have q274 : v269 = (Pt gr45 (i * 3)) := q274
              obtain rfl := q274
              show wpList _ _ _ _ (fr [_, _, _, _, _, _, _, _, _, _, _, _, _, _, _, _, _, _, _, _, _, _, _, _, _, _, _, _, _, _, _, _, _, _, _, _, _, _, _, _, _, _, _, _, _, _, _, _, _, _, _, _, _, _, _, _, _, _, _, _, _, _, _, _, _, _, _, _, _, _, _, _, _, _, _, _, _, _, _, _, _, _, _, _, _, _, _, _, _, _, _, _, _, _, _, _, _, _, _, _]) _
              refine seqn rfl rfl (does_storeRowG (R := RV3) (k := 3) (xs := ((pairsTo L_ctr.length i ++ rowP i j).foldl (partB L_rad) (prN L_rad L_ctr k))) (i := i) (u := (.agg #[(Fl r276), (Fl r278), (Fl r280)])) (e := (vsub el2 (vscale (unitF (vsub el1 el2)) (cf .f32 r238)))) (ev rfl) (ev rfl) Try.sizeOf32 rfl rfl RV3.flat (RowG.ext (RowG.ext (RowG.kl (RowG.ext (RowG.ext (RowG.ext (RowG.kl (RowG.ext (RowG.ext (RowG.ext hR81 RV3.flat E87) RV3.flat E98) RV3.flat E113) RV3.flat (KpL.of_wr W129) (ninS (Nat.ne_of_lt n127) nin0)) RV3.flat E149) RV3.flat E240) RV3.flat E243) RV3.flat (KpL.of_wr W252) (ninS (Nat.ne_of_lt n127) nin0)) RV3.flat E258) RV3.flat E271) rfl (by first | assumption | omega | (simp only [foldP_len, prN_len, List.length_set, List.length_replicate]; omega) | (simp only [foldP_len, prN_len, List.length_set, List.length_replicate]; done)) ⟨r276, r278, r280, rfl, h277, h279, h281⟩) ?_; rintro _ w284 ⟨rfl, W282, hR283⟩
              have X285 := Below.wr X275 W282 g52
              refine wpList_nil (hK256 _ _ ?_)
              obtain ⟨el4, hel4⟩ : ∃ e, (((pairsTo L_ctr.length i ++ rowP i j).foldl (partB L_rad) (prN L_rad L_ctr k)).set i (vsub el2 (vscale (unitF (vsub el1 el2)) (cf .f32 r238))))[j]? = some e := ⟨_, List.getElem?_eq_getElem (by first | assumption | omega | (simp only [foldP_len, prN_len, List.length_set, List.length_replicate]; omega) | (simp only [foldP_len, prN_len, List.length_set, List.length_replicate]; done))⟩
              refine region_draw (
                [Fact.pure [] (fun v => v = (.slice (some ⟨gr45, 0, none⟩) L_ctr.length q41)),
    Fact.pure [] (fun v => v = (Iv (j : Int))),
    Fact.pure [] (fun v => v = (.slice (some ⟨gr45, 0, none⟩) L_ctr.length q41)),
    Fact.pure [] (fun v => v = (Iv (j : Int))),
    Fact.pure [92, 93] (fun v => v = (Pt gr45 (j * 3))),
    Fact.pure [94] (fun v => ∃ cs_1 : List Value, v = (.agg cs_1.toArray) ∧ RV3 w el4 cs_1),
    Fact.pure [] (fun v => v = (.agg #[(Fl r245), (Fl r247), (Fl r249)])),
    Fact.pure [95, 96] (fun v => ∃ cs_1 : List Value, v = (.agg cs_1.toArray) ∧ RV3 w (vadd el4 (vscale (unitF (vsub el1 el2)) (cf .f32 r238))) cs_1),
    Fact.pure [90, 91] (fun v => v = (Pt gr45 (j * 3)))]) mixed (by kernel_rfl) (by intro _ _ d _ _ h; cases d <;> exact h) ?_
              obtain ⟨w286, hw288⟩ : ∃ w', w' = World.drew w284 := ⟨_, rfl⟩; rw [← hw288]; have E287 : Ext w284 w286 := by rw [hw288]; exact Ext.draw _
              clear hw288
              have X289 := Ext.gr X285 E287
              refine RW_d _ rfl (fun v => by dsimp only [List.set]; try rfl) (fun u hu hF => ?_) (fun v290 => ?_)
              · clear hF
                refine doesG_un rfl ?_
                refine (does_move (u := (.slice (some ⟨gr45, 0, none⟩) L_ctr.length q41)) (ev rfl)).mono ?_; rintro _ _ ⟨rfl, rfl⟩
                exact ⟨rfl, Ext.refl _⟩
              refine RW_d _ rfl (fun v => by dsimp only [List.set]; try rfl) (fun u hu hF => ?_) (fun v291 => ?_)
              · clear hF
                refine doesG_un rfl ?_
                refine (does_move (u := (Iv (j : Int))) (ev rfl)).mono ?_; rintro _ _ ⟨rfl, rfl⟩
                exact ⟨rfl, Ext.refl _⟩
              refine RW_d _ rfl (fun v => by dsimp only [List.set]; try rfl) (fun u hu hF => ?_) (fun v292 => ?_)
              · clear hF
                refine doesG_un rfl ?_
                refine (does_move (u := (.slice (some ⟨gr45, 0, none⟩) L_ctr.length q41)) (ev rfl)).mono ?_; rintro _ _ ⟨rfl, rfl⟩
                exact ⟨rfl, Ext.refl _⟩
              refine RW_d _ rfl (fun v => by dsimp only [List.set]; try rfl) (fun u hu hF => ?_) (fun v293 => ?_)
              · clear hF
                refine doesG_un rfl ?_
                refine (does_move (u := (Iv (j : Int))) (ev rfl)).mono ?_; rintro _ _ ⟨rfl, rfl⟩
                exact ⟨rfl, Ext.refl _⟩
              refine RW_d _ rfl (fun v => by dsimp only [List.set]; try rfl) (fun u hu hF => ?_) (fun v294 => ?_)
              · have h92_ : v292 = (.slice (some ⟨gr45, 0, none⟩) L_ctr.length q41) := hF.1
                have h93_ : v293 = (Iv (j : Int)) := hF.2.1
                clear hF
                refine doesG_un rfl ?_
                obtain rfl := h92_
                obtain rfl := h93_
                refine (does_indexOwn (b := gr45) (n := L_ctr.length) (i := (j : Int)) Try.underlying47 Try.sizeOf32 (ev rfl) (ev rfl) (by omega) (by omega)).mono ?_; rintro _ _ ⟨rfl, rfl⟩
                exact ⟨rfl, Ext.refl _⟩
              refine RW_d _ rfl (fun v => by dsimp only [List.set]; try rfl) (fun u hu hF => ?_) (fun v295 => ?_)
              · have h94_ : v294 = (Pt gr45 (j * 3)) := hF.1
                clear hF
                refine doesG_un rfl ?_
                obtain rfl := h94_
                refine (does_loadRowG (R := RV3) (k := 3) (xs := (((pairsTo L_ctr.length i ++ rowP i j).foldl (partB L_rad) (prN L_rad L_ctr k)).set i (vsub el2 (vscale (unitF (vsub el1 el2)) (cf .f32 r238))))) (i := j) (e := el4) (ev rfl) Try.isAgg32 Try.sizeOf32 (RowG.ext (RowG.ext hR283 RV3.flat E287) RV3.flat hu) rfl hel4).mono ?_; rintro v u' ⟨hx, ⟨csn1, hv, k0⟩⟩
                exact ⟨⟨csn1, hv, k0⟩, hx⟩
              refine RW_d _ rfl (fun v => by dsimp only [List.set]; try rfl) (fun u hu hF => ?_) (fun v296 => ?_)
              · clear hF
                refine doesG_un rfl ?_
                refine (does_loadAgg (cs := [(Fl r245), (Fl r247), (Fl r249)]) (ev rfl) Try.isAgg32 Try.sizeOf32 (Blk.cells (((((hB253.ext E258).ext E271).wr W282 (Nat.ne_of_gt n127)).ext E287).ext hu)) rfl).mono ?_; rintro _ _ ⟨rfl, rfl⟩
                exact ⟨rfl, Ext.refl _⟩
              refine RW_d _ rfl (fun v => by dsimp only [List.set]; try rfl) (fun u hu hF => ?_) (fun v297 => ?_)
              · have h95_ : ∃ cs_1 : List Value, v295 = (.agg cs_1.toArray) ∧ RV3 w el4 cs_1 := hF.1
                have h96_ : v296 = (.agg #[(Fl r245), (Fl r247), (Fl r249)]) := hF.2.1
                clear hF
                refine doesG_un rfl ?_
                obtain ⟨_, rfl, ⟨r95_1, r95_3, r95_5, rfl, h95_2, h95_4, h95_6⟩⟩ := h95_
                obtain rfl := h96_
                refine (does_call (args := #[(.agg #[(Fl r95_1), (Fl r95_3), (Fl r95_5)]), (.agg #[(Fl r245), (Fl r247), (Fl r249)])]) cal56 (evs rfl) (c_spec_l01Add [(Fl r95_1), (Fl r95_3), (Fl r95_5)] el4 [(Fl r245), (Fl r247), (Fl r249)] (vscale (unitF (vsub el1 el2)) (cf .f32 r238)) _ ⟨r95_1, r95_3, r95_5, rfl, (by assumption), (by assumption), (by assumption)⟩ ⟨r245, r247, r249, rfl, h246, h248, h250⟩)).mono ?_; rintro v u' ⟨hx, ⟨csn1, hv, k0⟩⟩
                exact ⟨⟨csn1, hv.trans (by simp only [h95_2, h95_4, h95_6]), (by first | exact k0 | simpa only [h95_2, h95_4, h95_6] using RV3.any (w := w) k0)⟩, hx⟩
              refine RW_d _ rfl (fun v => by dsimp only [List.set]; try rfl) (fun u hu hF => ?_) (fun v298 => ?_)
              · have h90_ : v290 = (.slice (some ⟨gr45, 0, none⟩) L_ctr.length q41) := hF.1
                have h91_ : v291 = (Iv (j : Int)) := hF.2.1
                clear hF
                refine doesG_un rfl ?_
                obtain rfl := h90_
                obtain rfl := h91_
                refine (does_indexOwn (b := gr45) (n := L_ctr.length) (i := (j : Int)) Try.underlying47 Try.sizeOf32 (ev rfl) (ev rfl) (by omega) (by omega)).mono ?_; rintro _ _ ⟨rfl, rfl⟩
                exact ⟨rfl, Ext.refl _⟩
              refine RW_fin ?_; intro w299 E300 hP301
              obtain ⟨⟨⟨⟨⟨⟨⟨⟨⟨-, -⟩, -⟩, -⟩, -⟩, -⟩, -⟩, -⟩, q302⟩, q303⟩ := hP301
              have X304 := Ext.gr X289 E300
              have q302 : ∃ cs_1 : List Value, v297 = (.agg cs_1.toArray) ∧ RV3 w (vadd el4 (vscale (unitF (vsub el1 el2)) (cf .f32 r238))) cs_1 := q302
              obtain ⟨_, rfl, ⟨r305, r307, r309, rfl, h306, h308, h310⟩⟩ := q302
              have q303 : v298 = (Pt gr45 (j * 3)) := q303
              obtain rfl := q303
              show wpList _ _ _ _ (fr [_, _, _, _, _, _, _, _, _, _, _, _, _, _, _, _, _, _, _, _, _, _, _, _, _, _, _, _, _, _, _, _, _, _, _, _, _, _, _, _, _, _, _, _, _, _, _, _, _, _, _, _, _, _, _, _, _, _, _, _, _, _, _, _, _, _, _, _, _, _, _, _, _, _, _, _, _, _, _, _, _, _, _, _, _, _, _, _, _, _, _, _, _, _, _, _, _, _, _, _]) _
              refine seqn rfl rfl (does_storeRowG (R := RV3) (k := 3) (xs := (((pairsTo L_ctr.length i ++ rowP i j).foldl (partB L_rad) (prN L_rad L_ctr k)).set i (vsub el2 (vscale (unitF (vsub el1 el2)) (cf .f32 r238))))) (i := j) (u := (.agg #[(Fl r305), (Fl r307), (Fl r309)])) (e := (vadd el4 (vscale (unitF (vsub el1 el2)) (cf .f32 r238)))) (ev rfl) (ev rfl) Try.sizeOf32 rfl rfl RV3.flat (RowG.ext (RowG.ext hR283 RV3.flat E287) RV3.flat E300) rfl (by first | assumption | omega | (simp only [foldP_len, prN_len, List.length_set, List.length_replicate]; omega) | (simp only [foldP_len, prN_len, List.length_set, List.length_replicate]; done)) ⟨r305, r307, r309, rfl, h306, h308, h310⟩) ?_; rintro _ w313 ⟨rfl, W311, hR312⟩
              have X314 := Below.wr X304 W311 g52
              refine wpList_nil (hK85 _ _ ?_)
              refine wp_region_lit ?_
              refine q_is rfl rfl (does_move (u := (Iv (j : Int))) (ev rfl)) (by dsimp only [List.set]; try rfl) ?_
              refine q_is rfl rfl (does_iarith (p := (j : Int)) (q := 1) (r := (j : Int) + 1) (ev rfl) (ev rfl) (.inl ⟨rfl, (in_i64 (by omega) (by omega)).symm⟩)) (by dsimp only [List.set]; try rfl) ?_
              refine q_is rfl rfl (does_assign (u := (Iv ((j : Int) + 1))) (ev rfl)) (by dsimp only [List.set]; try rfl) ?_
              refine wpList_nil ?_
              have hR315 := RowG.cast (ys := ((fun (j : Nat) => (pairsTo L_ctr.length i ++ rowP i j).foldl (partB L_rad) (prN L_rad L_ctr k)) (j + 1))) hR312 (by (try dsimp only); rw [rowP_succ hij, ← List.append_assoc, fold_snoc]; first | exact (partB_f (p := ((i : Int), (j : Int))) hxg).symm | exact partB_s (p := ((i : Int), (j : Int))) (by (try dsimp only); omega) hxg hel2 hel1 (by first | (rw [wayB_n hzv]; simp only [halfF, hβ1, h90, hel1, hel2, h119, h121, h123, hβ2, hβ3, hβ4, h239, h246, h248, h250, h277, h279, h281, hel4, h306, h308, h310]; done) | (rw [wayB_z hzv]; simp only [halfF, hβ1, h90, hel1, hel2, h119, h121, h123, hβ2, hβ3, hβ4, h239, h246, h248, h250, h277, h279, h281, hel4, h306, h308, h310]; done)) (by first | exact hel3 | exact hel4))
              refine ⟨j + 1, ⟨fun t => (([(.slice p_ctr L_ctr.length q_ctr), (.slice p_rad L_rad.length q_rad), (Iv rnd), Ud, Ud, Ud, (.slice none 0 0), (Bo false), (.slice (some ⟨gr45, 0, none⟩) L_ctr.length q41), (Iv (k : Int)), (Iv (i : Int)), (Iv ((j : Int) + 1)), (Fl r89), (Pt b124 0), v4, v5, v6, v7, v8, v9, v10, v11, (Bo β1), (.slice (some ⟨b23, 0, none⟩) 0 0), (.slice p_ctr L_ctr.length q_ctr), (.slice (some ⟨gr45, 0, none⟩) L_ctr.length q41), (Iv (k : Int)), (Iv rnd), (Bo (icmp .lss (k : Int) rnd)), (u54 29), (u54 30), (Iv (i : Int)), (.slice (some ⟨gr45, 0, none⟩) L_ctr.length q41), (Iv (L_ctr.length : Int)), (Bo (icmp .lss (i : Int) (L_ctr.length : Int))), (u65 35), (u65 36), (Iv (i : Int)), (Iv ((i : Int) + 1)), (Iv (j : Int)), (.slice (some ⟨gr45, 0, none⟩) L_ctr.length q41), (Iv (L_ctr.length : Int)), (Bo (icmp .lss (j : Int) (L_ctr.length : Int))), (Iv (j : Int)), (Iv ((j : Int) + 1)), (.slice (some ⟨gr45, 0, none⟩) L_ctr.length q41), (.slice p_rad L_rad.length q_rad), (Iv (i : Int)), (Iv (j : Int)), (Fl r89), (Fl r89), (Bo (fcmp .gtr (ford .f32 (cf .f32 r89) (cf .f32 0)))), (Bo (!(fcmp .gtr (ford .f32 (cf .f32 r89) (cf .f32 0))))), v101, v102, v103, v104, v105, v106, v107, v108, v109, (.agg #[(Fl r118), (Fl r120), (Fl r122)]), v135, v136, v137, v138, v139, v140, v141, v142, v143, v144, v145, v146, (Bo ((β2 && β3) && β4)), (u76 76), (.agg #[(Fl r118), (Fl r120), (Fl r122)]), (Fl r89), (Fl r238), (.agg #[(Fl r245), (Fl r247), (Fl r249)]), v261, v262, v263, v264, v265, v266, v267, (.agg #[(Fl r276), (Fl r278), (Fl r280)]), (Pt gr45 (i * 3)), v290, v291, v292, v293, v294, v295, v296, (.agg #[(Fl r305), (Fl r307), (Fl r309)]), (Pt gr45 (j * 3)), Ud] : List Value)[t]?).getD undef, ?_, (KpL.more (KpL.ext (KpL.ext (KpL.more (KpL.ext (KpL.ext (KpL.more (KpL.ext (KpL.ext (KpL.ext (KpL.more (KpL.ext (KpL.ext (KpL.ext E78 E87) E98) E113) (KpL.of_wr W129) (allS (.inr (Nat.le_trans (KpL.ext E78 E87).size hb125)) all0)) E149) E240) E243) (KpL.of_wr W252) (allS (.inr (Nat.le_trans (KpL.ext E78 E87).size hb125)) all0)) E258) E271) (KpL.of_wr W282) (allS (.inl (by simp)) all0)) E287) E300) (KpL.of_wr W311) (allS (.inl (by simp)) all0)), hR315, ?_⟩, ?_⟩
              · first | rfl | (simp only [Nat.cast_add, Nat.cast_one, Int.natCast_add, Int.natCast_one]; rfl)
              · (try dsimp only); exact ⟨by omega, by omega⟩
              · (try dsimp only); omega
            have c84' := c84
            (try simp only [hβ1] at c84')
            (try simp only [icmp, Bool.and_eq_true, Bool.or_eq_true, Bool.and_eq_false_iff, Bool.or_eq_false_iff, Bool.not_eq_true', Bool.not_eq_false', decide_eq_true_eq, decide_eq_false_iff_not, beq_iff_eq, bne_iff_ne, beq_eq_false_iff_ne, bne_eq_false_iff_eq] at c84')
            refine wp_exit ?_
            refine hK74 _ _ ?_
            refine wp_region_lit ?_
            refine q_is rfl rfl (does_move (u := (Iv (i : Int))) (ev rfl)) (by dsimp only [List.set]; try rfl) ?_
            refine q_is rfl rfl (does_iarith (p := (i : Int)) (q := 1) (r := (i : Int) + 1) (ev rfl) (ev rfl) (.inl ⟨rfl, (in_i64 (by omega) (by omega)).symm⟩)) (by dsimp only [List.set]; try rfl) ?_
            refine q_is rfl rfl (does_assign (u := (Iv ((i : Int) + 1))) (ev rfl)) (by dsimp only [List.set]; try rfl) ?_
            refine wpList_nil ?_
            have hR316 := RowG.cast (ys := ((fun (i : Nat) => (pairsTo L_ctr.length i).foldl (partB L_rad) (prN L_rad L_ctr k)) (i + 1))) hR81 (by (try dsimp only); rw [show j = L_ctr.length by omega]; rfl)
            refine ⟨i + 1, ⟨fun t => (([(.slice p_ctr L_ctr.length q_ctr), (.slice p_rad L_rad.length q_rad), (Iv rnd), Ud, Ud, Ud, (.slice none 0 0), (Bo false), (.slice (some ⟨gr45, 0, none⟩) L_ctr.length q41), (Iv (k : Int)), (Iv ((i : Int) + 1)), (Iv (j : Int)), (u76 12), (u76 13), v4, v5, v6, v7, v8, v9, v10, v11, (Bo β1), (.slice (some ⟨b23, 0, none⟩) 0 0), (.slice p_ctr L_ctr.length q_ctr), (.slice (some ⟨gr45, 0, none⟩) L_ctr.length q41), (Iv (k : Int)), (Iv rnd), (Bo (icmp .lss (k : Int) rnd)), (u54 29), (u54 30), (Iv (i : Int)), (.slice (some ⟨gr45, 0, none⟩) L_ctr.length q41), (Iv (L_ctr.length : Int)), (Bo (icmp .lss (i : Int) (L_ctr.length : Int))), (Iv (i : Int)), (Iv ((i : Int) + 1)), (Iv (i : Int)), (Iv ((i : Int) + 1)), (Iv (j : Int)), (.slice (some ⟨gr45, 0, none⟩) L_ctr.length q41), (Iv (L_ctr.length : Int)), (Bo (icmp .lss (j : Int) (L_ctr.length : Int))), (u76 43), (u76 44), (u76 45), (u76 46), (u76 47), (u76 48), (u76 49), (u76 50), (u76 51), (u76 52), (u76 53), (u76 54), (u76 55), (u76 56), (u76 57), (u76 58), (u76 59), (u76 60), (u76 61), (u76 62), (u76 63), (u76 64), (u76 65), (u76 66), (u76 67), (u76 68), (u76 69), (u76 70), (u76 71), (u76 72), (u76 73), (u76 74), (u76 75), (u76 76), (u76 77), (u76 78), (u76 79), (u76 80), (u76 81), (u76 82), (u76 83), (u76 84), (u76 85), (u76 86), (u76 87), (u76 88), (u76 89), (u76 90), (u76 91), (u76 92), (u76 93), (u76 94), (u76 95), (u76 96), (u76 97), (u76 98), Ud] : List Value)[t]?).getD undef, ?_, (KpL.more E67 E78 (allS (.inl (by simp)) all0)), hR316, ?_⟩, ?_⟩
            · first | rfl | (simp only [Nat.cast_add, Nat.cast_one, Int.natCast_add, Int.natCast_one]; rfl)
            · (try dsimp only); omega
            · (try dsimp only); omega
        have c73' := c73
        (try simp only [hβ1] at c73')
        (try simp only [icmp, Bool.and_eq_true, Bool.or_eq_true, Bool.and_eq_false_iff, Bool.or_eq_false_iff, Bool.not_eq_true', Bool.not_eq_false', decide_eq_true_eq, decide_eq_false_iff_not, beq_iff_eq, bne_iff_ne, beq_eq_false_iff_ne, bne_eq_false_iff_eq] at c73')
        refine wp_exit ?_
        refine hK63 _ _ ?_
        refine wp_region_lit ?_
        refine q_is rfl rfl (does_move (u := (Iv (k : Int))) (ev rfl)) (by dsimp only [List.set]; try rfl) ?_
        refine q_is rfl rfl (does_iarith (p := (k : Int)) (q := 1) (r := (k : Int) + 1) (ev rfl) (ev rfl) (.inl ⟨rfl, (in_i64 (by omega) (by omega)).symm⟩)) (by dsimp only [List.set]; try rfl) ?_
        refine q_is rfl rfl (does_assign (u := (Iv ((k : Int) + 1))) (ev rfl)) (by dsimp only [List.set]; try rfl) ?_
        refine wpList_nil ?_
        have hR317 := RowG.cast (ys := ((fun (k : Nat) => prN L_rad L_ctr k) (k + 1))) hR70 (by (try dsimp only); rw [show i = L_ctr.length by omega]; rfl)
        refine ⟨k + 1, ⟨fun t => (([(.slice p_ctr L_ctr.length q_ctr), (.slice p_rad L_rad.length q_rad), (Iv rnd), Ud, Ud, Ud, (.slice none 0 0), (Bo false), (.slice (some ⟨gr45, 0, none⟩) L_ctr.length q41), (Iv ((k : Int) + 1)), (Iv (i : Int)), (u65 11), (u65 12), (u65 13), v4, v5, v6, v7, v8, v9, v10, v11, (Bo β1), (.slice (some ⟨b23, 0, none⟩) 0 0), (.slice p_ctr L_ctr.length q_ctr), (.slice (some ⟨gr45, 0, none⟩) L_ctr.length q41), (Iv (k : Int)), (Iv rnd), (Bo (icmp .lss (k : Int) rnd)), (Iv (k : Int)), (Iv ((k : Int) + 1)), (Iv (i : Int)), (.slice (some ⟨gr45, 0, none⟩) L_ctr.length q41), (Iv (L_ctr.length : Int)), (Bo (icmp .lss (i : Int) (L_ctr.length : Int))), (u65 35), (u65 36), (u65 37), (u65 38), (u65 39), (u65 40), (u65 41), (u65 42), (u65 43), (u65 44), (u65 45), (u65 46), (u65 47), (u65 48), (u65 49), (u65 50), (u65 51), (u65 52), (u65 53), (u65 54), (u65 55), (u65 56), (u65 57), (u65 58), (u65 59), (u65 60), (u65 61), (u65 62), (u65 63), (u65 64), (u65 65), (u65 66), (u65 67), (u65 68), (u65 69), (u65 70), (u65 71), (u65 72), (u65 73), (u65 74), (u65 75), (u65 76), (u65 77), (u65 78), (u65 79), (u65 80), (u65 81), (u65 82), (u65 83), (u65 84), (u65 85), (u65 86), (u65 87), (u65 88), (u65 89), (u65 90), (u65 91), (u65 92), (u65 93), (u65 94), (u65 95), (u65 96), (u65 97), (u65 98), Ud] : List Value)[t]?).getD undef, ?_, (KpL.more E56 E67 (allS (.inl (by simp)) all0)), hR317, ?_⟩, ?_⟩
        · first | rfl | (simp only [Nat.cast_add, Nat.cast_one, Int.natCast_add, Int.natCast_one]; rfl)
        · omega
        · omega
    have c62' := c62
    (try simp only [hβ1] at c62')
    (try simp only [icmp, Bool.and_eq_true, Bool.or_eq_true, Bool.and_eq_false_iff, Bool.or_eq_false_iff, Bool.not_eq_true', Bool.not_eq_false', decide_eq_true_eq, decide_eq_false_iff_not, beq_iff_eq, bne_iff_ne, beq_eq_false_iff_ne, bne_eq_false_iff_eq] at c62')
    refine wp_exit ?_
    refine hK43 _ _ ?_
    refine wp_seq_k fun K318 hK318 => ?_
    refine wp_region_lit ?_
    refine q_is rfl rfl (does_move (u := (.slice (some ⟨gr45, 0, none⟩) L_ctr.length q41)) (ev rfl)) (by dsimp only [List.set]; try rfl) ?_
    refine q_is rfl rfl (does_assign (u := (.slice (some ⟨gr45, 0, none⟩) L_ctr.length q41)) (ev rfl)) (by dsimp only [List.set]; try rfl) ?_
    refine q_is rfl rfl (does_assign (u := (Bo true)) (ev rfl)) (by dsimp only [List.set]; try rfl) ?_
    refine wpList_nil (hK318 _ _ ?_)
    refine wp_ret ?_
    refine ret_val (v := (.tuple #[(.slice (some ⟨gr45, 0, none⟩) L_ctr.length q41), (Bo true)])) (res_TT rfl (slot rfl) (slot rfl)) X58 ?_
    try simp only [hβ1] at c18 c62
    have x319 : (ptOk L_ctr L_rad rnd) = true := by first | exact hpf | exact hpt | (rw [ptL_f hpf] <;> rfl) | (rw [ptL_t (k := k) hpt hk (by omega)] <;> first | rfl | assumption)
    have x320 : (prN L_rad L_ctr k) = (ptL L_ctr L_rad rnd) := by first | exact hpf | exact hpt | (rw [ptL_f hpf] <;> rfl) | (rw [ptL_t (k := k) hpt hk (by omega)] <;> first | rfl | assumption)
    exact ⟨(.slice (some ⟨gr45, 0, none⟩) L_ctr.length q41), (by first | with_reducible rfl | rw [x319] | rfl), (Hang.castL (RowG.hang hR59 RV3.flat (by first | assumption | omega | (simp only [foldP_len, prN_len, List.length_set, List.length_replicate]; omega) | (simp only [foldP_len, prN_len, List.length_set, List.length_replicate]; done)) g52 hcap49 (by omega) (by decide)) x320)⟩

/- laws.toVector -/
theorem c_laws_toVector (a : List Value) (A_a : V3) (w : World) (hv_a : RV3 w A_a a) : Gives Try.prog 34 #[(.agg a.toArray)] w (fun v w' => ∃ cs_1 : List Value, v = (.agg cs_1.toArray) ∧ RV3 w A_a cs_1) := by
  obtain ⟨r1, r3, r5, rfl, h2, h4, h6⟩ := hv_a
  refine enter [(.agg #[(Fl r1), (Fl r3), (Fl r5)]), Ud, Ud, Ud, Ud, Ud, Ud, Ud, Ud, Ud, Ud, Ud, Ud, Ud] Try.func34 rfl Try.ntmps34 rfl ?_
  refine wp_seq_k fun K7 hK7 => ?_
  refine wp_region_lit ?_
  refine seqd rfl rfl (does_box (u := (.agg #[(Fl r1), (Fl r3), (Fl r5)])) (ev rfl)) ?_; rintro _ w12 ⟨b8, rfl, hb9, hB10, E11⟩
  have g13 : w.heap.size ≤ b8 := Nat.le_trans (Below.size (Ext.refl w)) hb9
  change Blk _ _ [(Fl r1), (Fl r3), (Fl r5)] at hB10
  have X14 := Ext.gr (Ext.refl w) E11
  show wpList _ _ _ _ (fr [(.agg #[(Fl r1), (Fl r3), (Fl r5)]), (Pt b8 0), Ud, Ud, Ud, Ud, Ud, Ud, Ud, Ud, Ud, Ud, Ud, Ud]) _
  refine seqd rfl rfl (does_alloc z32) ?_; rintro _ w19 ⟨b15, rfl, hb16, hB17, E18⟩
  have n20 : b8 < b15 := Nat.lt_of_lt_of_le (Blk.lt hB10) hb16
  have g21 : w.heap.size ≤ b15 := Nat.le_trans (Below.size X14) hb16
  change Blk _ _ [(Fl 0), (Fl 0), (Fl 0)] at hB17
  have X22 := Ext.gr X14 E18
  show wpList _ _ _ _ (fr [(.agg #[(Fl r1), (Fl r3), (Fl r5)]), (Pt b8 0), (Pt b15 0), Ud, Ud, Ud, Ud, Ud, Ud, Ud, Ud, Ud, Ud, Ud]) _
  refine wpList_nil (hK7 _ _ ?_)
  refine wp_seq_k fun K23 hK23 => ?_
  refine wp_region_lit ?_
  refine seqd rfl rfl (does_alloc z32) ?_; rintro _ w28 ⟨b24, rfl, hb25, hB26, E27⟩
  have n29 : b8 < b24 := Nat.lt_of_lt_of_le (Blk.lt (hB10.ext E18)) hb25
  have n30 : b15 < b24 := Nat.lt_of_lt_of_le (Blk.lt hB17) hb25
  have g31 : w.heap.size ≤ b24 := Nat.le_trans (Below.size X22) hb25
  change Blk _ _ [(Fl 0), (Fl 0), (Fl 0)] at hB26
  have X32 := Ext.gr X22 E27
  show wpList _ _ _ _ (fr [(.agg #[(Fl r1), (Fl r3), (Fl r5)]), (Pt b8 0), (Pt b15 0), (Pt b24 0), Ud, Ud, Ud, Ud, Ud, Ud, Ud, Ud, Ud, Ud]) _
  refine wpList_nil (hK23 _ _ ?_)
  refine wp_seq_k fun K33 hK33 => ?_
  refine wp_region_lit ?_
  refine q_is (l' := [(.agg #[(Fl r1), (Fl r3), (Fl r5)]), (Pt b8 0), (Pt b15 0), (Pt b24 0), (Pt b8 0), Ud, Ud, Ud, Ud, Ud, Ud, Ud, Ud, Ud]) rfl rfl (does_fieldAddr (ev rfl) fa24_0) rfl ?_
  refine q_is (l' := [(.agg #[(Fl r1), (Fl r3), (Fl r5)]), (Pt b8 0), (Pt b15 0), (Pt b24 0), (Pt b8 0), (Fl r1), Ud, Ud, Ud, Ud, Ud, Ud, Ud, Ud]) rfl rfl (does_load (u := (Fl r1)) (ev rfl) Try.isAgg22 (Cells.at (Blk.cells ((hB10.ext E18).ext E27)) 0 rfl)) rfl ?_
  refine q_is (l' := [(.agg #[(Fl r1), (Fl r3), (Fl r5)]), (Pt b8 0), (Pt b15 0), (Pt b24 0), (Pt b8 0), (Fl r1), (Pt b24 0), Ud, Ud, Ud, Ud, Ud, Ud, Ud]) rfl rfl (does_fieldAddr (ev rfl) fa32_0) rfl ?_
  refine seqn rfl rfl (does_store (n := 1) (cs := [(Fl 0), (Fl 0), (Fl 0)]) (u := (Fl r1)) (ev rfl) (ev rfl) Try.sizeOf22 rfl hB26 (Nat.le_of_ble_eq_true rfl) rfl) ?_; rintro _ w36 ⟨rfl, W34, hB35⟩
  change Blk _ _ [(Fl r1), (Fl 0), (Fl 0)] at hB35
  have X37 := Below.wr X32 W34 g31
  refine wpList_nil (hK33 _ _ ?_)
  refine wp_seq_k fun K38 hK38 => ?_
  refine wp_region_lit ?_
  refine q_is (l' := [(.agg #[(Fl r1), (Fl r3), (Fl r5)]), (Pt b8 0), (Pt b15 0), (Pt b24 0), (Pt b8 0), (Fl r1), (Pt b24 0), (Pt b8 1), Ud, Ud, Ud, Ud, Ud, Ud]) rfl rfl (does_fieldAddr (ev rfl) fa24_1) rfl ?_
  refine q_is (l' := [(.agg #[(Fl r1), (Fl r3), (Fl r5)]), (Pt b8 0), (Pt b15 0), (Pt b24 0), (Pt b8 0), (Fl r1), (Pt b24 0), (Pt b8 1), (Fl r3), Ud, Ud, Ud, Ud, Ud]) rfl rfl (does_load (u := (Fl r3)) (ev rfl) Try.isAgg22 (Cells.at (Blk.cells (((hB10.ext E18).ext E27).wr W34 (Nat.ne_of_lt n29))) 1 rfl)) rfl ?_
  refine q_is (l' := [(.agg #[(Fl r1), (Fl r3), (Fl r5)]), (Pt b8 0), (Pt b15 0), (Pt b24 0), (Pt b8 0), (Fl r1), (Pt b24 0), (Pt b8 1), (Fl r3), (Pt b24 1), Ud, Ud, Ud, Ud]) rfl rfl (does_fieldAddr (ev rfl) fa32_1) rfl ?_
  refine seqn rfl rfl (does_store (n := 1) (cs := [(Fl r1), (Fl 0), (Fl 0)]) (u := (Fl r3)) (ev rfl) (ev rfl) Try.sizeOf22 rfl hB35 (Nat.le_of_ble_eq_true rfl) rfl) ?_; rintro _ w41 ⟨rfl, W39, hB40⟩
  change Blk _ _ [(Fl r1), (Fl r3), (Fl 0)] at hB40
  have X42 := Below.wr X37 W39 g31
  refine wpList_nil (hK38 _ _ ?_)
  refine wp_seq_k fun K43 hK43 => ?_
  refine wp_region_lit ?_
  refine q_is (l' := [(.agg #[(Fl r1), (Fl r3), (Fl r5)]), (Pt b8 0), (Pt b15 0), (Pt b24 0), (Pt b8 0), (Fl r1), (Pt b24 0), (Pt b8 1), (Fl r3), (Pt b24 1), (Pt b8 2), Ud, Ud, Ud]) rfl rfl (does_fieldAddr (ev rfl) fa24_2) rfl ?_
  refine q_is (l' := [(.agg #[(Fl r1), (Fl r3), (Fl r5)]), (Pt b8 0), (Pt b15 0), (Pt b24 0), (Pt b8 0), (Fl r1), (Pt b24 0), (Pt b8 1), (Fl r3), (Pt b24 1), (Pt b8 2), (Fl r5), Ud, Ud]) rfl rfl (does_load (u := (Fl r5)) (ev rfl) Try.isAgg22 (Cells.at (Blk.cells ((((hB10.ext E18).ext E27).wr W34 (Nat.ne_of_lt n29)).wr W39 (Nat.ne_of_lt n29))) 2 rfl)) rfl ?_
  refine q_is (l' := [(.agg #[(Fl r1), (Fl r3), (Fl r5)]), (Pt b8 0), (Pt b15 0), (Pt b24 0), (Pt b8 0), (Fl r1), (Pt b24 0), (Pt b8 1), (Fl r3), (Pt b24 1), (Pt b8 2), (Fl r5), (Pt b24 2), Ud]) rfl rfl (does_fieldAddr (ev rfl) fa32_2) rfl ?_
  refine seqn rfl rfl (does_store (n := 1) (cs := [(Fl r1), (Fl r3), (Fl 0)]) (u := (Fl r5)) (ev rfl) (ev rfl) Try.sizeOf22 rfl hB40 (Nat.le_of_ble_eq_true rfl) rfl) ?_; rintro _ w46 ⟨rfl, W44, hB45⟩
  change Blk _ _ [(Fl r1), (Fl r3), (Fl r5)] at hB45
  have X47 := Below.wr X42 W44 g31
  refine wpList_nil (hK43 _ _ ?_)
  refine wp_seq_k fun K48 hK48 => ?_
  refine wp_region_lit ?_
  refine q_is (l' := [(.agg #[(Fl r1), (Fl r3), (Fl r5)]), (Pt b8 0), (Pt b15 0), (Pt b24 0), (Pt b8 0), (Fl r1), (Pt b24 0), (Pt b8 1), (Fl r3), (Pt b24 1), (Pt b8 2), (Fl r5), (Pt b24 2), (.agg #[(Fl r1), (Fl r3), (Fl r5)])]) rfl rfl (does_loadAgg (cs := [(Fl r1), (Fl r3), (Fl r5)]) (ev rfl) Try.isAgg32 Try.sizeOf32 (Blk.cells hB45) rfl) rfl ?_
  refine seqn rfl rfl (does_store (n := 3) (cs := [(Fl 0), (Fl 0), (Fl 0)]) (u := (.agg #[(Fl r1), (Fl r3), (Fl r5)])) (ev rfl) (ev rfl) Try.sizeOf32 rfl ((((hB17.ext E27).wr W34 (Nat.ne_of_lt n30)).wr W39 (Nat.ne_of_lt n30)).wr W44 (Nat.ne_of_lt n30)) (Nat.le_of_ble_eq_true rfl) rfl) ?_; rintro _ w51 ⟨rfl, W49, hB50⟩
  change Blk _ _ [(Fl r1), (Fl r3), (Fl r5)] at hB50
  have X52 := Below.wr X47 W49 g21
  refine wpList_nil (hK48 _ _ ?_)
  refine wp_ret ?_
  refine ret_val (v := (.agg #[(Fl r1), (Fl r3), (Fl r5)])) (res_C rfl (slot rfl) (run_loadAgg (cs := [(Fl r1), (Fl r3), (Fl r5)]) Try.isAgg32 Try.sizeOf32 (Blk.cells hB50) rfl)) X52 ?_
  exact ⟨[(Fl r1), (Fl r3), (Fl r5)], rfl, ⟨r1, r3, r5, rfl, h2, h4, h6⟩⟩

/- laws.toVectorS -/
theorem c_laws_toVectorS (a : Value) (L_a : List V3) (w : World) (hv_a : Sl RV3 3 w a L_a) (hsz : L_a.length ≤ 1048576) : Gives Try.prog 23 #[a] w (fun v w' => ∃ y_1 : Value, ∃ Lw_2 : List Nat, v = y_1 ∧ Hang w.heap.size w' (fun u => Sl RV3 3 u y_1 L_a) ∧ WL 3 w.heap.size w' Lw_2 y_1 L_a.length) := by
  have hlen_a := Sl.len hv_a; obtain ⟨p_a, q_a, rfl⟩ := Sl.shape hv_a
  refine enter [(.slice p_a L_a.length q_a), Ud, Ud, Ud, Ud, Ud, Ud, Ud, Ud, Ud, Ud, Ud, Ud, Ud, Ud, Ud, Ud, Ud, Ud, Ud, Ud, Ud, Ud] Try.func23 rfl Try.ntmps23 rfl ?_
  refine wp_seq_k fun K1 hK1 => ?_
  refine wp_region_lit ?_
  refine q_is (l' := [(.slice p_a L_a.length q_a), Ud, (.slice none 0 0), Ud, Ud, Ud, Ud, Ud, Ud, Ud, Ud, Ud, Ud, Ud, Ud, Ud, Ud, Ud, Ud, Ud, Ud, Ud, Ud]) rfl rfl (does_assign (u := (.slice none 0 0)) (ev rfl)) rfl ?_
  refine wpList_nil (hK1 _ _ ?_)
  refine wp_seq_k fun K2 hK2 => ?_
  refine wp_region_lit ?_
  refine q_is (l' := [(.slice p_a L_a.length q_a), Ud, (.slice none 0 0), Ud, Ud, (.slice p_a L_a.length q_a), Ud, Ud, Ud, Ud, Ud, Ud, Ud, Ud, Ud, Ud, Ud, Ud, Ud, Ud, Ud, Ud, Ud]) rfl rfl (does_move (u := (.slice p_a L_a.length q_a)) (ev rfl)) rfl ?_
  refine q_is (l' := [(.slice p_a L_a.length q_a), Ud, (.slice none 0 0), Ud, Ud, (.slice p_a L_a.length q_a), (Iv (L_a.length : Int)), Ud, Ud, Ud, Ud, Ud, Ud, Ud, Ud, Ud, Ud, Ud, Ud, Ud, Ud, Ud, Ud]) rfl rfl (does_len_slice Try.underlying41 (ev rfl)) rfl ?_
  refine seqd rfl rfl (does_makeSlice (n := L_a.length) Try.underlying47 inf32 (ev rfl) (ev rfl) (by omega)) ?_; rintro _ w7 ⟨b3, rfl, hb4, ⟨cs8, hB5, hl9, hz10⟩, E6⟩
  have g11 : w.heap.size ≤ b3 := Nat.le_trans (Below.size (Ext.refl w)) hb4
  have X12 := Ext.gr (Ext.refl w) E6
  show wpList _ _ _ _ (fr [(.slice p_a L_a.length q_a), Ud, (.slice none 0 0), Ud, Ud, (.slice p_a L_a.length q_a), (Iv (L_a.length : Int)), (.slice (some ⟨b3, 0, none⟩) L_a.length L_a.length), Ud, Ud, Ud, Ud, Ud, Ud, Ud, Ud, Ud, Ud, Ud, Ud, Ud, Ud, Ud]) _
  refine q_is (l' := [(.slice p_a L_a.length q_a), Ud, (.slice none 0 0), (.slice (some ⟨b3, 0, none⟩) L_a.length L_a.length), Ud, (.slice p_a L_a.length q_a), (Iv (L_a.length : Int)), (.slice (some ⟨b3, 0, none⟩) L_a.length L_a.length), Ud, Ud, Ud, Ud, Ud, Ud, Ud, Ud, Ud, Ud, Ud, Ud, Ud, Ud, Ud]) rfl rfl (does_assign (u := (.slice (some ⟨b3, 0, none⟩) L_a.length L_a.length)) (ev rfl)) rfl ?_
  refine wpList_nil (hK2 _ _ ?_)
  refine wp_seq_k fun K13 hK13 => ?_
  refine wp_seq_k fun K14 hK14 => ?_
  refine wp_region_lit ?_
  refine q_is (l' := [(.slice p_a L_a.length q_a), Ud, (.slice none 0 0), (.slice (some ⟨b3, 0, none⟩) L_a.length L_a.length), (Iv 0), (.slice p_a L_a.length q_a), (Iv (L_a.length : Int)), (.slice (some ⟨b3, 0, none⟩) L_a.length L_a.length), Ud, Ud, Ud, Ud, Ud, Ud, Ud, Ud, Ud, Ud, Ud, Ud, Ud, Ud, Ud]) rfl rfl (does_assign (u := (Iv 0)) (ev rfl)) rfl ?_
  refine wpList_nil (hK14 _ _ ?_)
  refine wp_block ?_
  have hF0 : Fill RV3 3 w7 b3 L_a.length L_a 0 := Fill.zero hB5 hl9
  refine loop_ghost (σ := Nat) (fun k a w' => ∃ u15 : Nat → Value, a = fr [(.slice p_a L_a.length q_a), Ud, (.slice none 0 0), (.slice (some ⟨b3, 0, none⟩) L_a.length L_a.length), (Iv (k : Int)), (.slice p_a L_a.length q_a), (Iv (L_a.length : Int)), (.slice (some ⟨b3, 0, none⟩) L_a.length L_a.length), (u15 8), (u15 9), (u15 10), (u15 11), (u15 12), (u15 13), (u15 14), (u15 15), (u15 16), (u15 17), (u15 18), (u15 19), (u15 20), (u15 21), Ud] ∧ KpL [b3] w7 w' ∧ Fill RV3 3 w' b3 L_a.length L_a k ∧ (k ≤ L_a.length)) (fun k => L_a.length - k) 0 ?_ ?_
  · refine ⟨fun t => (([(.slice p_a L_a.length q_a), Ud, (.slice none 0 0), (.slice (some ⟨b3, 0, none⟩) L_a.length L_a.length), (Iv 0), (.slice p_a L_a.length q_a), (Iv (L_a.length : Int)), (.slice (some ⟨b3, 0, none⟩) L_a.length L_a.length), Ud, Ud, Ud, Ud, Ud, Ud, Ud, Ud, Ud, Ud, Ud, Ud, Ud, Ud, Ud] : List Value)[t]?).getD undef, rfl, KpL.refl _ _, hF0, ?_⟩
    exact Nat.zero_le _
  · rintro k a w16 ⟨u15, rfl, E17, hF18, hk⟩
    have X19 := Below.kl X12 E17 (allS g11 all0) (Nat.le_refl _)
    refine wp_seq_k fun K20 hK20 => ?_
    refine wp_seq_k fun K21 hK21 => ?_
    refine wp_region_lit ?_
    refine q_is (l' := [(.slice p_a L_a.length q_a), Ud, (.slice none 0 0), (.slice (some ⟨b3, 0, none⟩) L_a.length L_a.length), (Iv (k : Int)), (.slice p_a L_a.length q_a), (Iv (L_a.length : Int)), (.slice (some ⟨b3, 0, none⟩) L_a.length L_a.length), (Iv (k : Int)), (u15 9), (u15 10), (u15 11), (u15 12), (u15 13), (u15 14), (u15 15), (u15 16), (u15 17), (u15 18), (u15 19), (u15 20), (u15 21), Ud]) rfl rfl (does_move (u := (Iv (k : Int))) (ev rfl)) rfl ?_
    refine q_is (l' := [(.slice p_a L_a.length q_a), Ud, (.slice none 0 0), (.slice (some ⟨b3, 0, none⟩) L_a.length L_a.length), (Iv (k : Int)), (.slice p_a L_a.length q_a), (Iv (L_a.length : Int)), (.slice (some ⟨b3, 0, none⟩) L_a.length L_a.length), (Iv (k : Int)), (.slice p_a L_a.length q_a), (u15 10), (u15 11), (u15 12), (u15 13), (u15 14), (u15 15), (u15 16), (u15 17), (u15 18), (u15 19), (u15 20), (u15 21), Ud]) rfl rfl (does_move (u := (.slice p_a L_a.length q_a)) (ev rfl)) rfl ?_
    refine q_is (l' := [(.slice p_a L_a.length q_a), Ud, (.slice none 0 0), (.slice (some ⟨b3, 0, none⟩) L_a.length L_a.length), (Iv (k : Int)), (.slice p_a L_a.length q_a), (Iv (L_a.length : Int)), (.slice (some ⟨b3, 0, none⟩) L_a.length L_a.length), (Iv (k : Int)), (.slice p_a L_a.length q_a), (Iv (L_a.length : Int)), (u15 11), (u15 12), (u15 13), (u15 14), (u15 15), (u15 16), (u15 17), (u15 18), (u15 19), (u15 20), (u15 21), Ud]) rfl rfl (does_len_slice Try.underlying41 (ev rfl)) rfl ?_
    refine q_is (l' := [(.slice p_a L_a.length q_a), Ud, (.slice none 0 0), (.slice (some ⟨b3, 0, none⟩) L_a.length L_a.length), (Iv (k : Int)), (.slice p_a L_a.length q_a), (Iv (L_a.length : Int)), (.slice (some ⟨b3, 0, none⟩) L_a.length L_a.length), (Iv (k : Int)), (.slice p_a L_a.length q_a), (Iv (L_a.length : Int)), (Bo (icmp .lss (k : Int) (L_a.length : Int))), (u15 12), (u15 13), (u15 14), (u15 15), (u15 16), (u15 17), (u15 18), (u15 19), (u15 20), (u15 21), Ud]) rfl rfl (does_icmp (p := (k : Int)) (q := (L_a.length : Int)) (.inr (.inr (.inl rfl))) (ev rfl) (ev rfl)) rfl ?_
    refine wpList_nil (hK21 _ _ ?_)
    refine wp_cond_split (t := icmp .lss (k : Int) (L_a.length : Int)) (ev rfl) (fun c22 => ?_) (fun c22 => ?_)
    · have c22' := c22
      (try simp only [icmp, Bool.and_eq_true, Bool.or_eq_true, Bool.and_eq_false_iff, Bool.or_eq_false_iff, Bool.not_eq_true', Bool.not_eq_false', decide_eq_true_eq, decide_eq_false_iff_not, beq_iff_eq, bne_iff_ne, beq_eq_false_iff_ne, bne_eq_false_iff_eq] at c22')
      refine wp_skip (hK20 _ _ ?_)
      refine wp_seq_k fun K23 hK23 => ?_
      refine wp_block ?_
      refine wp_region_lit ?_
      refine q_is (l' := [(.slice p_a L_a.length q_a), Ud, (.slice none 0 0), (.slice (some ⟨b3, 0, none⟩) L_a.length L_a.length), (Iv (k : Int)), (.slice p_a L_a.length q_a), (Iv (L_a.length : Int)), (.slice (some ⟨b3, 0, none⟩) L_a.length L_a.length), (Iv (k : Int)), (.slice p_a L_a.length q_a), (Iv (L_a.length : Int)), (Bo (icmp .lss (k : Int) (L_a.length : Int))), (u15 12), (u15 13), (.slice (some ⟨b3, 0, none⟩) L_a.length L_a.length), (u15 15), (u15 16), (u15 17), (u15 18), (u15 19), (u15 20), (u15 21), Ud]) rfl rfl (does_move (u := (.slice (some ⟨b3, 0, none⟩) L_a.length L_a.length)) (ev rfl)) rfl ?_
      refine q_is (l' := [(.slice p_a L_a.length q_a), Ud, (.slice none 0 0), (.slice (some ⟨b3, 0, none⟩) L_a.length L_a.length), (Iv (k : Int)), (.slice p_a L_a.length q_a), (Iv (L_a.length : Int)), (.slice (some ⟨b3, 0, none⟩) L_a.length L_a.length), (Iv (k : Int)), (.slice p_a L_a.length q_a), (Iv (L_a.length : Int)), (Bo (icmp .lss (k : Int) (L_a.length : Int))), (u15 12), (u15 13), (.slice (some ⟨b3, 0, none⟩) L_a.length L_a.length), (Iv (k : Int)), (u15 16), (u15 17), (u15 18), (u15 19), (u15 20), (u15 21), Ud]) rfl rfl (does_move (u := (Iv (k : Int))) (ev rfl)) rfl ?_
      refine q_is (l' := [(.slice p_a L_a.length q_a), Ud, (.slice none 0 0), (.slice (some ⟨b3, 0, none⟩) L_a.length L_a.length), (Iv (k : Int)), (.slice p_a L_a.length q_a), (Iv (L_a.length : Int)), (.slice (some ⟨b3, 0, none⟩) L_a.length L_a.length), (Iv (k : Int)), (.slice p_a L_a.length q_a), (Iv (L_a.length : Int)), (Bo (icmp .lss (k : Int) (L_a.length : Int))), (u15 12), (u15 13), (.slice (some ⟨b3, 0, none⟩) L_a.length L_a.length), (Iv (k : Int)), (.slice p_a L_a.length q_a), (u15 17), (u15 18), (u15 19), (u15 20), (u15 21), Ud]) rfl rfl (does_move (u := (.slice p_a L_a.length q_a)) (ev rfl)) rfl ?_
      refine q_is (l' := [(.slice p_a L_a.length q_a), Ud, (.slice none 0 0), (.slice (some ⟨b3, 0, none⟩) L_a.length L_a.length), (Iv (k : Int)), (.slice p_a L_a.length q_a), (Iv (L_a.length : Int)), (.slice (some ⟨b3, 0, none⟩) L_a.length L_a.length), (Iv (k : Int)), (.slice p_a L_a.length q_a), (Iv (L_a.length : Int)), (Bo (icmp .lss (k : Int) (L_a.length : Int))), (u15 12), (u15 13), (.slice (some ⟨b3, 0, none⟩) L_a.length L_a.length), (Iv (k : Int)), (.slice p_a L_a.length q_a), (Iv (k : Int)), (u15 18), (u15 19), (u15 20), (u15 21), Ud]) rfl rfl (does_move (u := (Iv (k : Int))) (ev rfl)) rfl ?_
      obtain ⟨el1, hel1⟩ : ∃ e, L_a[k]? = some e := ⟨_, List.getElem?_eq_getElem (by omega)⟩
      refine seqd rfl rfl (does_indexSl (R := RV3) (i := (k : Int)) (xs := L_a) (e := el1) Try.underlying41 Try.sizeOf24 (ev rfl) (ev rfl) (Sl.ext hv_a RV3.mono X19) (by omega) hel1) ?_; rintro _ w16 ⟨b24, o25, _, rfl, hc27, ⟨r28, r30, r32, rfl, h29, h31, h33⟩, rfl⟩
      show wpList _ _ _ _ (fr [(.slice p_a L_a.length q_a), Ud, (.slice none 0 0), (.slice (some ⟨b3, 0, none⟩) L_a.length L_a.length), (Iv (k : Int)), (.slice p_a L_a.length q_a), (Iv (L_a.length : Int)), (.slice (some ⟨b3, 0, none⟩) L_a.length L_a.length), (Iv (k : Int)), (.slice p_a L_a.length q_a), (Iv (L_a.length : Int)), (Bo (icmp .lss (k : Int) (L_a.length : Int))), (u15 12), (u15 13), (.slice (some ⟨b3, 0, none⟩) L_a.length L_a.length), (Iv (k : Int)), (.slice p_a L_a.length q_a), (Iv (k : Int)), (Pt b24 o25), (u15 19), (u15 20), (u15 21), Ud]) _
      refine q_is (l' := [(.slice p_a L_a.length q_a), Ud, (.slice none 0 0), (.slice (some ⟨b3, 0, none⟩) L_a.length L_a.length), (Iv (k : Int)), (.slice p_a L_a.length q_a), (Iv (L_a.length : Int)), (.slice (some ⟨b3, 0, none⟩) L_a.length L_a.length), (Iv (k : Int)), (.slice p_a L_a.length q_a), (Iv (L_a.length : Int)), (Bo (icmp .lss (k : Int) (L_a.length : Int))), (u15 12), (u15 13), (.slice (some ⟨b3, 0, none⟩) L_a.length L_a.length), (Iv (k : Int)), (.slice p_a L_a.length q_a), (Iv (k : Int)), (Pt b24 o25), (.agg #[(Fl r28), (Fl r30), (Fl r32)]), (u15 20), (u15 21), Ud]) rfl rfl (does_loadAgg (cs := [(Fl r28), (Fl r30), (Fl r32)]) (ev rfl) Try.isAgg24 Try.sizeOf24 hc27 rfl) rfl ?_
      refine seqd rfl rfl (does_call (args := #[(.agg #[(Fl r28), (Fl r30), (Fl r32)])]) cal34 (evs rfl) (c_laws_toVector [(Fl r28), (Fl r30), (Fl r32)] el1 _ ⟨r28, r30, r32, rfl, h29, h31, h33⟩)) ?_; rintro _ w35 ⟨E34, ⟨_, rfl, ⟨r36, r38, r40, rfl, h37, h39, h41⟩⟩⟩
      have X42 := Ext.gr X19 E34
      show wpList _ _ _ _ (fr [(.slice p_a L_a.length q_a), Ud, (.slice none 0 0), (.slice (some ⟨b3, 0, none⟩) L_a.length L_a.length), (Iv (k : Int)), (.slice p_a L_a.length q_a), (Iv (L_a.length : Int)), (.slice (some ⟨b3, 0, none⟩) L_a.length L_a.length), (Iv (k : Int)), (.slice p_a L_a.length q_a), (Iv (L_a.length : Int)), (Bo (icmp .lss (k : Int) (L_a.length : Int))), (u15 12), (u15 13), (.slice (some ⟨b3, 0, none⟩) L_a.length L_a.length), (Iv (k : Int)), (.slice p_a L_a.length q_a), (Iv (k : Int)), (Pt b24 o25), (.agg #[(Fl r28), (Fl r30), (Fl r32)]), (.agg #[(Fl r36), (Fl r38), (Fl r40)]), (u15 21), Ud]) _
      refine q_is (l' := [(.slice p_a L_a.length q_a), Ud, (.slice none 0 0), (.slice (some ⟨b3, 0, none⟩) L_a.length L_a.length), (Iv (k : Int)), (.slice p_a L_a.length q_a), (Iv (L_a.length : Int)), (.slice (some ⟨b3, 0, none⟩) L_a.length L_a.length), (Iv (k : Int)), (.slice p_a L_a.length q_a), (Iv (L_a.length : Int)), (Bo (icmp .lss (k : Int) (L_a.length : Int))), (u15 12), (u15 13), (.slice (some ⟨b3, 0, none⟩) L_a.length L_a.length), (Iv (k : Int)), (.slice p_a L_a.length q_a), (Iv (k : Int)), (Pt b24 o25), (.agg #[(Fl r28), (Fl r30), (Fl r32)]), (.agg #[(Fl r36), (Fl r38), (Fl r40)]), (Pt b3 (k * 3)), Ud]) rfl rfl (does_indexOwn (b := b3) (n := L_a.length) (i := (k : Int)) Try.underlying47 Try.sizeOf32 (ev rfl) (ev rfl) (by omega) (by omega)) rfl ?_
      refine seqn rfl rfl (does_fill (R := RV3) (k := 3) (n := L_a.length) (j := k) (xs := L_a) (u := (.agg #[(Fl r36), (Fl r38), (Fl r40)])) (e := el1) (ev rfl) (ev rfl) Try.sizeOf32 rfl rfl (Fill.ext hF18 RV3.mono E34) (by omega) hel1 (fun _ => ⟨r36, r38, r40, rfl, h37, h39, h41⟩) (fun _ _ _ _ h => h)) ?_; rintro _ w45 ⟨rfl, W43, hF44⟩
      have X46 := Below.wr X42 W43 g11
      refine wpList_nil (hK23 _ _ ?_)
      refine wp_region_lit ?_
      refine q_is (l' := [(.slice p_a L_a.length q_a), Ud, (.slice none 0 0), (.slice (some ⟨b3, 0, none⟩) L_a.length L_a.length), (Iv (k : Int)), (.slice p_a L_a.length q_a), (Iv (L_a.length : Int)), (.slice (some ⟨b3, 0, none⟩) L_a.length L_a.length), (Iv (k : Int)), (.slice p_a L_a.length q_a), (Iv (L_a.length : Int)), (Bo (icmp .lss (k : Int) (L_a.length : Int))), (Iv (k : Int)), (u15 13), (.slice (some ⟨b3, 0, none⟩) L_a.length L_a.length), (Iv (k : Int)), (.slice p_a L_a.length q_a), (Iv (k : Int)), (Pt b24 o25), (.agg #[(Fl r28), (Fl r30), (Fl r32)]), (.agg #[(Fl r36), (Fl r38), (Fl r40)]), (Pt b3 (k * 3)), Ud]) rfl rfl (does_move (u := (Iv (k : Int))) (ev rfl)) rfl ?_
      refine q_is (l' := [(.slice p_a L_a.length q_a), Ud, (.slice none 0 0), (.slice (some ⟨b3, 0, none⟩) L_a.length L_a.length), (Iv (k : Int)), (.slice p_a L_a.length q_a), (Iv (L_a.length : Int)), (.slice (some ⟨b3, 0, none⟩) L_a.length L_a.length), (Iv (k : Int)), (.slice p_a L_a.length q_a), (Iv (L_a.length : Int)), (Bo (icmp .lss (k : Int) (L_a.length : Int))), (Iv (k : Int)), (Iv ((k : Int) + 1)), (.slice (some ⟨b3, 0, none⟩) L_a.length L_a.length), (Iv (k : Int)), (.slice p_a L_a.length q_a), (Iv (k : Int)), (Pt b24 o25), (.agg #[(Fl r28), (Fl r30), (Fl r32)]), (.agg #[(Fl r36), (Fl r38), (Fl r40)]), (Pt b3 (k * 3)), Ud]) rfl rfl (does_iarith (p := (k : Int)) (q := 1) (r := (k : Int) + 1) (ev rfl) (ev rfl) (.inl ⟨rfl, (in_i64 (by omega) (by omega)).symm⟩)) rfl ?_
      refine q_is (l' := [(.slice p_a L_a.length q_a), Ud, (.slice none 0 0), (.slice (some ⟨b3, 0, none⟩) L_a.length L_a.length), (Iv ((k : Int) + 1)), (.slice p_a L_a.length q_a), (Iv (L_a.length : Int)), (.slice (some ⟨b3, 0, none⟩) L_a.length L_a.length), (Iv (k : Int)), (.slice p_a L_a.length q_a), (Iv (L_a.length : Int)), (Bo (icmp .lss (k : Int) (L_a.length : Int))), (Iv (k : Int)), (Iv ((k : Int) + 1)), (.slice (some ⟨b3, 0, none⟩) L_a.length L_a.length), (Iv (k : Int)), (.slice p_a L_a.length q_a), (Iv (k : Int)), (Pt b24 o25), (.agg #[(Fl r28), (Fl r30), (Fl r32)]), (.agg #[(Fl r36), (Fl r38), (Fl r40)]), (Pt b3 (k * 3)), Ud]) rfl rfl (does_assign (u := (Iv ((k : Int) + 1))) (ev rfl)) rfl ?_
      refine wpList_nil ?_
      refine ⟨k + 1, ⟨fun t => (([(.slice p_a L_a.length q_a), Ud, (.slice none 0 0), (.slice (some ⟨b3, 0, none⟩) L_a.length L_a.length), (Iv ((k : Int) + 1)), (.slice p_a L_a.length q_a), (Iv (L_a.length : Int)), (.slice (some ⟨b3, 0, none⟩) L_a.length L_a.length), (Iv (k : Int)), (.slice p_a L_a.length q_a), (Iv (L_a.length : Int)), (Bo (icmp .lss (k : Int) (L_a.length : Int))), (Iv (k : Int)), (Iv ((k : Int) + 1)), (.slice (some ⟨b3, 0, none⟩) L_a.length L_a.length), (Iv (k : Int)), (.slice p_a L_a.length q_a), (Iv (k : Int)), (Pt b24 o25), (.agg #[(Fl r28), (Fl r30), (Fl r32)]), (.agg #[(Fl r36), (Fl r38), (Fl r40)]), (Pt b3 (k * 3)), Ud] : List Value)[t]?).getD undef, ?_, (KpL.more (KpL.ext E17 E34) (KpL.of_wr W43) (allS (.inl (by simp)) all0)), hF44, ?_⟩, ?_⟩
      · first | rfl | (simp only [Nat.cast_add, Nat.cast_one, Int.natCast_add, Int.natCast_one]; rfl)
      · omega
      · omega
    have c22' := c22
    (try simp only [icmp, Bool.and_eq_true, Bool.or_eq_true, Bool.and_eq_false_iff, Bool.or_eq_false_iff, Bool.not_eq_true', Bool.not_eq_false', decide_eq_true_eq, decide_eq_false_iff_not, beq_iff_eq, bne_iff_ne, beq_eq_false_iff_ne, bne_eq_false_iff_eq] at c22')
    refine wp_exit ?_
    refine hK13 _ _ ?_
    refine wp_seq_k fun K47 hK47 => ?_
    refine wp_region_lit ?_
    refine q_is (l' := [(.slice p_a L_a.length q_a), Ud, (.slice none 0 0), (.slice (some ⟨b3, 0, none⟩) L_a.length L_a.length), (Iv (k : Int)), (.slice p_a L_a.length q_a), (Iv (L_a.length : Int)), (.slice (some ⟨b3, 0, none⟩) L_a.length L_a.length), (Iv (k : Int)), (.slice p_a L_a.length q_a), (Iv (L_a.length : Int)), (Bo (icmp .lss (k : Int) (L_a.length : Int))), (u15 12), (u15 13), (u15 14), (u15 15), (u15 16), (u15 17), (u15 18), (u15 19), (u15 20), (u15 21), (.slice (some ⟨b3, 0, none⟩) L_a.length L_a.length)]) rfl rfl (does_move (u := (.slice (some ⟨b3, 0, none⟩) L_a.length L_a.length)) (ev rfl)) rfl ?_
    refine q_is (l' := [(.slice p_a L_a.length q_a), Ud, (.slice (some ⟨b3, 0, none⟩) L_a.length L_a.length), (.slice (some ⟨b3, 0, none⟩) L_a.length L_a.length), (Iv (k : Int)), (.slice p_a L_a.length q_a), (Iv (L_a.length : Int)), (.slice (some ⟨b3, 0, none⟩) L_a.length L_a.length), (Iv (k : Int)), (.slice p_a L_a.length q_a), (Iv (L_a.length : Int)), (Bo (icmp .lss (k : Int) (L_a.length : Int))), (u15 12), (u15 13), (u15 14), (u15 15), (u15 16), (u15 17), (u15 18), (u15 19), (u15 20), (u15 21), (.slice (some ⟨b3, 0, none⟩) L_a.length L_a.length)]) rfl rfl (does_assign (u := (.slice (some ⟨b3, 0, none⟩) L_a.length L_a.length)) (ev rfl)) rfl ?_
    refine wpList_nil (hK47 _ _ ?_)
    refine wp_ret ?_
    refine ret_val (v := (.slice (some ⟨b3, 0, none⟩) L_a.length L_a.length)) (res_T rfl (slot rfl)) X19 ?_
    exact ⟨(.slice (some ⟨b3, 0, none⟩) L_a.length L_a.length), [b3], rfl, (Fill.hang hF18 RV3.flat g11 (by omega) rfl (by omega) (by decide)), (Fill.wl hF18 g11)⟩

/- laws.toFloat32S -/
theorem c_laws_toFloat32S (a : Value) (L_a : List Nat) (w : World) (hv_a : Sl RF 1 w a L_a) (hsz : L_a.length ≤ 1048576) : Gives Try.prog 24 #[a] w (fun v w' => ∃ y_1 : Value, ∃ Lw_2 : List Nat, v = y_1 ∧ Hang w.heap.size w' (fun u => Sl RF 1 u y_1 L_a) ∧ WL 1 w.heap.size w' Lw_2 y_1 L_a.length) := by
  have hlen_a := Sl.len hv_a; obtain ⟨p_a, q_a, rfl⟩ := Sl.shape hv_a
  refine enter [(.slice p_a L_a.length q_a), Ud, Ud, Ud, Ud, Ud, Ud, Ud, Ud, Ud, Ud, Ud, Ud, Ud, Ud, Ud, Ud, Ud, Ud, Ud, Ud, Ud] Try.func24 rfl Try.ntmps24 rfl ?_
  refine wp_seq_k fun K1 hK1 => ?_
  refine wp_region_lit ?_
  refine q_is (l' := [(.slice p_a L_a.length q_a), Ud, (.slice none 0 0), Ud, Ud, Ud, Ud, Ud, Ud, Ud, Ud, Ud, Ud, Ud, Ud, Ud, Ud, Ud, Ud, Ud, Ud, Ud]) rfl rfl (does_assign (u := (.slice none 0 0)) (ev rfl)) rfl ?_
  refine wpList_nil (hK1 _ _ ?_)
  refine wp_seq_k fun K2 hK2 => ?_
  refine wp_region_lit ?_
  refine q_is (l' := [(.slice p_a L_a.length q_a), Ud, (.slice none 0 0), Ud, Ud, (.slice p_a L_a.length q_a), Ud, Ud, Ud, Ud, Ud, Ud, Ud, Ud, Ud, Ud, Ud, Ud, Ud, Ud, Ud, Ud]) rfl rfl (does_move (u := (.slice p_a L_a.length q_a)) (ev rfl)) rfl ?_
  refine q_is (l' := [(.slice p_a L_a.length q_a), Ud, (.slice none 0 0), Ud, Ud, (.slice p_a L_a.length q_a), (Iv (L_a.length : Int)), Ud, Ud, Ud, Ud, Ud, Ud, Ud, Ud, Ud, Ud, Ud, Ud, Ud, Ud, Ud]) rfl rfl (does_len_slice Try.underlying25 (ev rfl)) rfl ?_
  refine seqd rfl rfl (does_makeSlice (n := L_a.length) Try.underlying25 inf22 (ev rfl) (ev rfl) (by omega)) ?_; rintro _ w7 ⟨b3, rfl, hb4, ⟨cs8, hB5, hl9, hz10⟩, E6⟩
  have g11 : w.heap.size ≤ b3 := Nat.le_trans (Below.size (Ext.refl w)) hb4
  have X12 := Ext.gr (Ext.refl w) E6
  show wpList _ _ _ _ (fr [(.slice p_a L_a.length q_a), Ud, (.slice none 0 0), Ud, Ud, (.slice p_a L_a.length q_a), (Iv (L_a.length : Int)), (.slice (some ⟨b3, 0, none⟩) L_a.length L_a.length), Ud, Ud, Ud, Ud, Ud, Ud, Ud, Ud, Ud, Ud, Ud, Ud, Ud, Ud]) _
  refine q_is (l' := [(.slice p_a L_a.length q_a), Ud, (.slice none 0 0), (.slice (some ⟨b3, 0, none⟩) L_a.length L_a.length), Ud, (.slice p_a L_a.length q_a), (Iv (L_a.length : Int)), (.slice (some ⟨b3, 0, none⟩) L_a.length L_a.length), Ud, Ud, Ud, Ud, Ud, Ud, Ud, Ud, Ud, Ud, Ud, Ud, Ud, Ud]) rfl rfl (does_assign (u := (.slice (some ⟨b3, 0, none⟩) L_a.length L_a.length)) (ev rfl)) rfl ?_
  refine wpList_nil (hK2 _ _ ?_)
  refine wp_seq_k fun K13 hK13 => ?_
  refine wp_seq_k fun K14 hK14 => ?_
  refine wp_region_lit ?_
  refine q_is (l' := [(.slice p_a L_a.length q_a), Ud, (.slice none 0 0), (.slice (some ⟨b3, 0, none⟩) L_a.length L_a.length), (Iv 0), (.slice p_a L_a.length q_a), (Iv (L_a.length : Int)), (.slice (some ⟨b3, 0, none⟩) L_a.length L_a.length), Ud, Ud, Ud, Ud, Ud, Ud, Ud, Ud, Ud, Ud, Ud, Ud, Ud, Ud]) rfl rfl (does_assign (u := (Iv 0)) (ev rfl)) rfl ?_
  refine wpList_nil (hK14 _ _ ?_)
  refine wp_block ?_
  have hF0 : Fill RF 1 w7 b3 L_a.length L_a 0 := Fill.zero hB5 hl9
  refine loop_ghost (σ := Nat) (fun k a w' => ∃ u15 : Nat → Value, a = fr [(.slice p_a L_a.length q_a), Ud, (.slice none 0 0), (.slice (some ⟨b3, 0, none⟩) L_a.length L_a.length), (Iv (k : Int)), (.slice p_a L_a.length q_a), (Iv (L_a.length : Int)), (.slice (some ⟨b3, 0, none⟩) L_a.length L_a.length), (u15 8), (u15 9), (u15 10), (u15 11), (u15 12), (u15 13), (u15 14), (u15 15), (u15 16), (u15 17), (u15 18), (u15 19), (u15 20), Ud] ∧ KpL [b3] w7 w' ∧ Fill RF 1 w' b3 L_a.length L_a k ∧ (k ≤ L_a.length)) (fun k => L_a.length - k) 0 ?_ ?_
  · refine ⟨fun t => (([(.slice p_a L_a.length q_a), Ud, (.slice none 0 0), (.slice (some ⟨b3, 0, none⟩) L_a.length L_a.length), (Iv 0), (.slice p_a L_a.length q_a), (Iv (L_a.length : Int)), (.slice (some ⟨b3, 0, none⟩) L_a.length L_a.length), Ud, Ud, Ud, Ud, Ud, Ud, Ud, Ud, Ud, Ud, Ud, Ud, Ud, Ud] : List Value)[t]?).getD undef, rfl, KpL.refl _ _, hF0, ?_⟩
    exact Nat.zero_le _
  · rintro k a w16 ⟨u15, rfl, E17, hF18, hk⟩
    have X19 := Below.kl X12 E17 (allS g11 all0) (Nat.le_refl _)
    refine wp_seq_k fun K20 hK20 => ?_
    refine wp_seq_k fun K21 hK21 => ?_
    refine wp_region_lit ?_
    refine q_is (l' := [(.slice p_a L_a.length q_a), Ud, (.slice none 0 0), (.slice (some ⟨b3, 0, none⟩) L_a.length L_a.length), (Iv (k : Int)), (.slice p_a L_a.length q_a), (Iv (L_a.length : Int)), (.slice (some ⟨b3, 0, none⟩) L_a.length L_a.length), (Iv (k : Int)), (u15 9), (u15 10), (u15 11), (u15 12), (u15 13), (u15 14), (u15 15), (u15 16), (u15 17), (u15 18), (u15 19), (u15 20), Ud]) rfl rfl (does_move (u := (Iv (k : Int))) (ev rfl)) rfl ?_
    refine q_is (l' := [(.slice p_a L_a.length q_a), Ud, (.slice none 0 0), (.slice (some ⟨b3, 0, none⟩) L_a.length L_a.length), (Iv (k : Int)), (.slice p_a L_a.length q_a), (Iv (L_a.length : Int)), (.slice (some ⟨b3, 0, none⟩) L_a.length L_a.length), (Iv (k : Int)), (.slice p_a L_a.length q_a), (u15 10), (u15 11), (u15 12), (u15 13), (u15 14), (u15 15), (u15 16), (u15 17), (u15 18), (u15 19), (u15 20), Ud]) rfl rfl (does_move (u := (.slice p_a L_a.length q_a)) (ev rfl)) rfl ?_
    refine q_is (l' := [(.slice p_a L_a.length q_a), Ud, (.slice none 0 0), (.slice (some ⟨b3, 0, none⟩) L_a.length L_a.length), (Iv (k : Int)), (.slice p_a L_a.length q_a), (Iv (L_a.length : Int)), (.slice (some ⟨b3, 0, none⟩) L_a.length L_a.length), (Iv (k : Int)), (.slice p_a L_a.length q_a), (Iv (L_a.length : Int)), (u15 11), (u15 12), (u15 13), (u15 14), (u15 15), (u15 16), (u15 17), (u15 18), (u15 19), (u15 20), Ud]) rfl rfl (does_len_slice Try.underlying25 (ev rfl)) rfl ?_
    refine q_is (l' := [(.slice p_a L_a.length q_a), Ud, (.slice none 0 0), (.slice (some ⟨b3, 0, none⟩) L_a.length L_a.length), (Iv (k : Int)), (.slice p_a L_a.length q_a), (Iv (L_a.length : Int)), (.slice (some ⟨b3, 0, none⟩) L_a.length L_a.length), (Iv (k : Int)), (.slice p_a L_a.length q_a), (Iv (L_a.length : Int)), (Bo (icmp .lss (k : Int) (L_a.length : Int))), (u15 12), (u15 13), (u15 14), (u15 15), (u15 16), (u15 17), (u15 18), (u15 19), (u15 20), Ud]) rfl rfl (does_icmp (p := (k : Int)) (q := (L_a.length : Int)) (.inr (.inr (.inl rfl))) (ev rfl) (ev rfl)) rfl ?_
    refine wpList_nil (hK21 _ _ ?_)
    refine wp_cond_split (t := icmp .lss (k : Int) (L_a.length : Int)) (ev rfl) (fun c22 => ?_) (fun c22 => ?_)
    · have c22' := c22
      (try simp only [icmp, Bool.and_eq_true, Bool.or_eq_true, Bool.and_eq_false_iff, Bool.or_eq_false_iff, Bool.not_eq_true', Bool.not_eq_false', decide_eq_true_eq, decide_eq_false_iff_not, beq_iff_eq, bne_iff_ne, beq_eq_false_iff_ne, bne_eq_false_iff_eq] at c22')
      refine wp_skip (hK20 _ _ ?_)
      refine wp_seq_k fun K23 hK23 => ?_
      refine wp_block ?_
      refine wp_region_lit ?_
      refine q_is (l' := [(.slice p_a L_a.length q_a), Ud, (.slice none 0 0), (.slice (some ⟨b3, 0, none⟩) L_a.length L_a.length), (Iv (k : Int)), (.slice p_a L_a.length q_a), (Iv (L_a.length : Int)), (.slice (some ⟨b3, 0, none⟩) L_a.length L_a.length), (Iv (k : Int)), (.slice p_a L_a.length q_a), (Iv (L_a.length : Int)), (Bo (icmp .lss (k : Int) (L_a.length : Int))), (u15 12), (u15 13), (.slice (some ⟨b3, 0, none⟩) L_a.length L_a.length), (u15 15), (u15 16), (u15 17), (u15 18), (u15 19), (u15 20), Ud]) rfl rfl (does_move (u := (.slice (some ⟨b3, 0, none⟩) L_a.length L_a.length)) (ev rfl)) rfl ?_
      refine q_is (l' := [(.slice p_a L_a.length q_a), Ud, (.slice none 0 0), (.slice (some ⟨b3, 0, none⟩) L_a.length L_a.length), (Iv (k : Int)), (.slice p_a L_a.length q_a), (Iv (L_a.length : Int)), (.slice (some ⟨b3, 0, none⟩) L_a.length L_a.length), (Iv (k : Int)), (.slice p_a L_a.length q_a), (Iv (L_a.length : Int)), (Bo (icmp .lss (k : Int) (L_a.length : Int))), (u15 12), (u15 13), (.slice (some ⟨b3, 0, none⟩) L_a.length L_a.length), (Iv (k : Int)), (u15 16), (u15 17), (u15 18), (u15 19), (u15 20), Ud]) rfl rfl (does_move (u := (Iv (k : Int))) (ev rfl)) rfl ?_
      refine q_is (l' := [(.slice p_a L_a.length q_a), Ud, (.slice none 0 0), (.slice (some ⟨b3, 0, none⟩) L_a.length L_a.length), (Iv (k : Int)), (.slice p_a L_a.length q_a), (Iv (L_a.length : Int)), (.slice (some ⟨b3, 0, none⟩) L_a.length L_a.length), (Iv (k : Int)), (.slice p_a L_a.length q_a), (Iv (L_a.length : Int)), (Bo (icmp .lss (k : Int) (L_a.length : Int))), (u15 12), (u15 13), (.slice (some ⟨b3, 0, none⟩) L_a.length L_a.length), (Iv (k : Int)), (.slice p_a L_a.length q_a), (u15 17), (u15 18), (u15 19), (u15 20), Ud]) rfl rfl (does_move (u := (.slice p_a L_a.length q_a)) (ev rfl)) rfl ?_
      refine q_is (l' := [(.slice p_a L_a.length q_a), Ud, (.slice none 0 0), (.slice (some ⟨b3, 0, none⟩) L_a.length L_a.length), (Iv (k : Int)), (.slice p_a L_a.length q_a), (Iv (L_a.length : Int)), (.slice (some ⟨b3, 0, none⟩) L_a.length L_a.length), (Iv (k : Int)), (.slice p_a L_a.length q_a), (Iv (L_a.length : Int)), (Bo (icmp .lss (k : Int) (L_a.length : Int))), (u15 12), (u15 13), (.slice (some ⟨b3, 0, none⟩) L_a.length L_a.length), (Iv (k : Int)), (.slice p_a L_a.length q_a), (Iv (k : Int)), (u15 18), (u15 19), (u15 20), Ud]) rfl rfl (does_move (u := (Iv (k : Int))) (ev rfl)) rfl ?_
      obtain ⟨el1, hel1⟩ : ∃ e, L_a[k]? = some e := ⟨_, List.getElem?_eq_getElem (by omega)⟩
      refine seqd rfl rfl (does_indexSl (R := RF) (i := (k : Int)) (xs := L_a) (e := el1) Try.underlying25 Try.sizeOf22 (ev rfl) (ev rfl) (Sl.ext hv_a RF.mono X19) (by omega) hel1) ?_; rintro _ w16 ⟨b24, o25, _, rfl, hc27, ⟨r28, rfl, h29⟩, rfl⟩
      show wpList _ _ _ _ (fr [(.slice p_a L_a.length q_a), Ud, (.slice none 0 0), (.slice (some ⟨b3, 0, none⟩) L_a.length L_a.length), (Iv (k : Int)), (.slice p_a L_a.length q_a), (Iv (L_a.length : Int)), (.slice (some ⟨b3, 0, none⟩) L_a.length L_a.length), (Iv (k : Int)), (.slice p_a L_a.length q_a), (Iv (L_a.length : Int)), (Bo (icmp .lss (k : Int) (L_a.length : Int))), (u15 12), (u15 13), (.slice (some ⟨b3, 0, none⟩) L_a.length L_a.length), (Iv (k : Int)), (.slice p_a L_a.length q_a), (Iv (k : Int)), (Pt b24 o25), (u15 19), (u15 20), Ud]) _
      refine q_is (l' := [(.slice p_a L_a.length q_a), Ud, (.slice none 0 0), (.slice (some ⟨b3, 0, none⟩) L_a.length L_a.length), (Iv (k : Int)), (.slice p_a L_a.length q_a), (Iv (L_a.length : Int)), (.slice (some ⟨b3, 0, none⟩) L_a.length L_a.length), (Iv (k : Int)), (.slice p_a L_a.length q_a), (Iv (L_a.length : Int)), (Bo (icmp .lss (k : Int) (L_a.length : Int))), (u15 12), (u15 13), (.slice (some ⟨b3, 0, none⟩) L_a.length L_a.length), (Iv (k : Int)), (.slice p_a L_a.length q_a), (Iv (k : Int)), (Pt b24 o25), (Fl r28), (u15 20), Ud]) rfl rfl (does_load (u := (Fl r28)) (ev rfl) Try.isAgg22 (Cells.at hc27 0 rfl)) rfl ?_
      refine q_is (l' := [(.slice p_a L_a.length q_a), Ud, (.slice none 0 0), (.slice (some ⟨b3, 0, none⟩) L_a.length L_a.length), (Iv (k : Int)), (.slice p_a L_a.length q_a), (Iv (L_a.length : Int)), (.slice (some ⟨b3, 0, none⟩) L_a.length L_a.length), (Iv (k : Int)), (.slice p_a L_a.length q_a), (Iv (L_a.length : Int)), (Bo (icmp .lss (k : Int) (L_a.length : Int))), (u15 12), (u15 13), (.slice (some ⟨b3, 0, none⟩) L_a.length L_a.length), (Iv (k : Int)), (.slice p_a L_a.length q_a), (Iv (k : Int)), (Pt b24 o25), (Fl r28), (Pt b3 (k * 1)), Ud]) rfl rfl (does_indexOwn (b := b3) (n := L_a.length) (i := (k : Int)) Try.underlying25 Try.sizeOf22 (ev rfl) (ev rfl) (by omega) (by omega)) rfl ?_
      refine seqn rfl rfl (does_fill (R := RF) (k := 1) (n := L_a.length) (j := k) (xs := L_a) (u := (Fl r28)) (e := el1) (ev rfl) (ev rfl) Try.sizeOf22 rfl rfl hF18 (by omega) hel1 (fun _ => ⟨_, rfl, h29⟩) (fun _ _ _ _ h => h)) ?_; rintro _ w32 ⟨rfl, W30, hF31⟩
      have X33 := Below.wr X19 W30 g11
      refine wpList_nil (hK23 _ _ ?_)
      refine wp_region_lit ?_
      refine q_is (l' := [(.slice p_a L_a.length q_a), Ud, (.slice none 0 0), (.slice (some ⟨b3, 0, none⟩) L_a.length L_a.length), (Iv (k : Int)), (.slice p_a L_a.length q_a), (Iv (L_a.length : Int)), (.slice (some ⟨b3, 0, none⟩) L_a.length L_a.length), (Iv (k : Int)), (.slice p_a L_a.length q_a), (Iv (L_a.length : Int)), (Bo (icmp .lss (k : Int) (L_a.length : Int))), (Iv (k : Int)), (u15 13), (.slice (some ⟨b3, 0, none⟩) L_a.length L_a.length), (Iv (k : Int)), (.slice p_a L_a.length q_a), (Iv (k : Int)), (Pt b24 o25), (Fl r28), (Pt b3 (k * 1)), Ud]) rfl rfl (does_move (u := (Iv (k : Int))) (ev rfl)) rfl ?_
      refine q_is (l' := [(.slice p_a L_a.length q_a), Ud, (.slice none 0 0), (.slice (some ⟨b3, 0, none⟩) L_a.length L_a.length), (Iv (k : Int)), (.slice p_a L_a.length q_a), (Iv (L_a.length : Int)), (.slice (some ⟨b3, 0, none⟩) L_a.length L_a.length), (Iv (k : Int)), (.slice p_a L_a.length q_a), (Iv (L_a.length : Int)), (Bo (icmp .lss (k : Int) (L_a.length : Int))), (Iv (k : Int)), (Iv ((k : Int) + 1)), (.slice (some ⟨b3, 0, none⟩) L_a.length L_a.length), (Iv (k : Int)), (.slice p_a L_a.length q_a), (Iv (k : Int)), (Pt b24 o25), (Fl r28), (Pt b3 (k * 1)), Ud]) rfl rfl (does_iarith (p := (k : Int)) (q := 1) (r := (k : Int) + 1) (ev rfl) (ev rfl) (.inl ⟨rfl, (in_i64 (by omega) (by omega)).symm⟩)) rfl ?_
      refine q_is (l' := [(.slice p_a L_a.length q_a), Ud, (.slice none 0 0), (.slice (some ⟨b3, 0, none⟩) L_a.length L_a.length), (Iv ((k : Int) + 1)), (.slice p_a L_a.length q_a), (Iv (L_a.length : Int)), (.slice (some ⟨b3, 0, none⟩) L_a.length L_a.length), (Iv (k : Int)), (.slice p_a L_a.length q_a), (Iv (L_a.length : Int)), (Bo (icmp .lss (k : Int) (L_a.length : Int))), (Iv (k : Int)), (Iv ((k : Int) + 1)), (.slice (some ⟨b3, 0, none⟩) L_a.length L_a.length), (Iv (k : Int)), (.slice p_a L_a.length q_a), (Iv (k : Int)), (Pt b24 o25), (Fl r28), (Pt b3 (k * 1)), Ud]) rfl rfl (does_assign (u := (Iv ((k : Int) + 1))) (ev rfl)) rfl ?_
      refine wpList_nil ?_
      refine ⟨k + 1, ⟨fun t => (([(.slice p_a L_a.length q_a), Ud, (.slice none 0 0), (.slice (some ⟨b3, 0, none⟩) L_a.length L_a.length), (Iv ((k : Int) + 1)), (.slice p_a L_a.length q_a), (Iv (L_a.length : Int)), (.slice (some ⟨b3, 0, none⟩) L_a.length L_a.length), (Iv (k : Int)), (.slice p_a L_a.length q_a), (Iv (L_a.length : Int)), (Bo (icmp .lss (k : Int) (L_a.length : Int))), (Iv (k : Int)), (Iv ((k : Int) + 1)), (.slice (some ⟨b3, 0, none⟩) L_a.length L_a.length), (Iv (k : Int)), (.slice p_a L_a.length q_a), (Iv (k : Int)), (Pt b24 o25), (Fl r28), (Pt b3 (k * 1)), Ud] : List Value)[t]?).getD undef, ?_, (KpL.more E17 (KpL.of_wr W30) (allS (.inl (by simp)) all0)), hF31, ?_⟩, ?_⟩
      · first | rfl | (simp only [Nat.cast_add, Nat.cast_one, Int.natCast_add, Int.natCast_one]; rfl)
      · omega
      · omega
    have c22' := c22
    (try simp only [icmp, Bool.and_eq_true, Bool.or_eq_true, Bool.and_eq_false_iff, Bool.or_eq_false_iff, Bool.not_eq_true', Bool.not_eq_false', decide_eq_true_eq, decide_eq_false_iff_not, beq_iff_eq, bne_iff_ne, beq_eq_false_iff_ne, bne_eq_false_iff_eq] at c22')
    refine wp_exit ?_
    refine hK13 _ _ ?_
    refine wp_seq_k fun K34 hK34 => ?_
    refine wp_region_lit ?_
    refine q_is (l' := [(.slice p_a L_a.length q_a), Ud, (.slice none 0 0), (.slice (some ⟨b3, 0, none⟩) L_a.length L_a.length), (Iv (k : Int)), (.slice p_a L_a.length q_a), (Iv (L_a.length : Int)), (.slice (some ⟨b3, 0, none⟩) L_a.length L_a.length), (Iv (k : Int)), (.slice p_a L_a.length q_a), (Iv (L_a.length : Int)), (Bo (icmp .lss (k : Int) (L_a.length : Int))), (u15 12), (u15 13), (u15 14), (u15 15), (u15 16), (u15 17), (u15 18), (u15 19), (u15 20), (.slice (some ⟨b3, 0, none⟩) L_a.length L_a.length)]) rfl rfl (does_move (u := (.slice (some ⟨b3, 0, none⟩) L_a.length L_a.length)) (ev rfl)) rfl ?_
    refine q_is (l' := [(.slice p_a L_a.length q_a), Ud, (.slice (some ⟨b3, 0, none⟩) L_a.length L_a.length), (.slice (some ⟨b3, 0, none⟩) L_a.length L_a.length), (Iv (k : Int)), (.slice p_a L_a.length q_a), (Iv (L_a.length : Int)), (.slice (some ⟨b3, 0, none⟩) L_a.length L_a.length), (Iv (k : Int)), (.slice p_a L_a.length q_a), (Iv (L_a.length : Int)), (Bo (icmp .lss (k : Int) (L_a.length : Int))), (u15 12), (u15 13), (u15 14), (u15 15), (u15 16), (u15 17), (u15 18), (u15 19), (u15 20), (.slice (some ⟨b3, 0, none⟩) L_a.length L_a.length)]) rfl rfl (does_assign (u := (.slice (some ⟨b3, 0, none⟩) L_a.length L_a.length)) (ev rfl)) rfl ?_
    refine wpList_nil (hK34 _ _ ?_)
    refine wp_ret ?_
    refine ret_val (v := (.slice (some ⟨b3, 0, none⟩) L_a.length L_a.length)) (res_T rfl (slot rfl)) X19 ?_
    exact ⟨(.slice (some ⟨b3, 0, none⟩) L_a.length L_a.length), [b3], rfl, (Fill.hang hF18 RF.flat g11 (by omega) rfl (by omega) (by decide)), (Fill.wl hF18 g11)⟩

/- impl.in -/
theorem c_impl_in (n : Int) (low : Int) (high : Int) (w : World) : Gives Try.prog 72 #[(Iv n), (Iv low), (Iv high)] w (fun v w' => v = (Bo (inI n low high))) := by
  refine enter [(Iv n), (Iv low), (Iv high), Ud, Ud, Ud, Ud, Ud, Ud, Ud, Ud, Ud, Ud, Ud, Ud] Try.func72 rfl Try.ntmps72 rfl ?_
  refine wp_seq_k fun K1 hK1 => ?_
  refine wp_region_lit ?_
  refine q_is (l' := [(Iv n), (Iv low), (Iv high), Ud, Ud, Ud, (Bo false), Ud, Ud, Ud, Ud, Ud, Ud, Ud, Ud]) rfl rfl (does_assign (u := (Bo false)) (ev rfl)) rfl ?_
  refine wpList_nil (hK1 _ _ ?_)
  refine wp_seq_k fun K2 hK2 => ?_
  obtain ⟨β1, hβ1⟩ : ∃ b : Bool, b = ((icmp .geq n low) && (icmp .leq n high)) := ⟨_, rfl⟩
  refine region_text (
    [Fact.pure [] (fun v => v = (Iv n)),
    Fact.pure [] (fun v => v = (Iv low)),
    Fact.pure [7, 8] (fun v => v = (Bo (icmp .geq n low))),
    Fact.pure [9] (fun v => v = (Bo (icmp .geq n low))),
    Fact.pure [10] (fun v => (icmp .geq n low) = true → v = (Iv n)),
    Fact.pure [10] (fun v => (icmp .geq n low) = true → v = (Iv high)),
    Fact.pure [11, 12, 10] (fun v => (icmp .geq n low) = true → v = (Bo (icmp .leq n high))),
    Fact.pure [10, 13] (fun v => v = (Bo β1))]) (by simp [Fact.pure, Fact.mem]) ?_
  refine RW_d (fun v3 => [(Iv n), (Iv low), (Iv high), Ud, Ud, Ud, (Bo false), v3, Ud, Ud, Ud, Ud, Ud, Ud, Ud]) rfl (fun _ => rfl) (fun u hu hF => ?_) (fun v3 => ?_)
  · clear hF
    refine doesG_un rfl ?_
    refine (does_move (u := (Iv n)) (ev rfl)).mono ?_; rintro _ _ ⟨rfl, rfl⟩
    exact ⟨rfl, Ext.refl _⟩
  refine RW_d (fun v4 => [(Iv n), (Iv low), (Iv high), Ud, Ud, Ud, (Bo false), v3, v4, Ud, Ud, Ud, Ud, Ud, Ud]) rfl (fun _ => rfl) (fun u hu hF => ?_) (fun v4 => ?_)
  · clear hF
    refine doesG_un rfl ?_
    refine (does_move (u := (Iv low)) (ev rfl)).mono ?_; rintro _ _ ⟨rfl, rfl⟩
    exact ⟨rfl, Ext.refl _⟩
  refine RW_d (fun v5 => [(Iv n), (Iv low), (Iv high), Ud, Ud, Ud, (Bo false), v3, v4, v5, Ud, Ud, Ud, Ud, Ud]) rfl (fun _ => rfl) (fun u hu hF => ?_) (fun v5 => ?_)
  · have h7_ : v3 = (Iv n) := hF.1
    have h8_ : v4 = (Iv low) := hF.2.1
    clear hF
    refine doesG_un rfl ?_
    obtain rfl := h7_
    obtain rfl := h8_
    refine (does_icmp (p := n) (q := low) (.inr (.inr (.inr (.inr (.inr rfl))))) (ev rfl) (ev rfl)).mono ?_; rintro _ _ ⟨rfl, rfl⟩
    exact ⟨rfl, Ext.refl _⟩
  refine RW_d (fun v6 => [(Iv n), (Iv low), (Iv high), Ud, Ud, Ud, (Bo false), v3, v4, v5, v6, Ud, Ud, Ud, Ud]) rfl (fun _ => rfl) (fun u hu hF => ?_) (fun v6 => ?_)
  · have h9_ : v5 = (Bo (icmp .geq n low)) := hF.1
    clear hF
    refine doesG_un rfl ?_
    obtain rfl := h9_
    refine (does_move (u := (Bo (icmp .geq n low))) (ev rfl)).mono ?_; rintro _ _ ⟨rfl, rfl⟩
    exact ⟨rfl, Ext.refl _⟩
  refine RW_d (fun v7 => [(Iv n), (Iv low), (Iv high), Ud, Ud, Ud, (Bo false), v3, v4, v5, v6, v7, Ud, Ud, Ud]) rfl (fun _ => rfl) (fun u hu hF => ?_) (fun v7 => ?_)
  · have h10_ : v6 = (Bo (icmp .geq n low)) := hF.1
    clear hF
    obtain rfl := h10_
    refine doesG_g (b := (icmp .geq n low)) rfl (yld rfl rfl) (fun hg1 => ?_) (fun hc => ⟨fun hg1 => absurd hg1 hc, Ext.refl _⟩)
    refine (does_move (u := (Iv n)) (ev rfl)).mono ?_; rintro _ _ ⟨rfl, rfl⟩
    exact ⟨fun _ => rfl, Ext.refl _⟩
  refine RW_d (fun v8 => [(Iv n), (Iv low), (Iv high), Ud, Ud, Ud, (Bo false), v3, v4, v5, v6, v7, v8, Ud, Ud]) rfl (fun _ => rfl) (fun u hu hF => ?_) (fun v8 => ?_)
  · have h10_ : v6 = (Bo (icmp .geq n low)) := hF.1
    clear hF
    obtain rfl := h10_
    refine doesG_g (b := (icmp .geq n low)) rfl (yld rfl rfl) (fun hg1 => ?_) (fun hc => ⟨fun hg1 => absurd hg1 hc, Ext.refl _⟩)
    refine (does_move (u := (Iv high)) (ev rfl)).mono ?_; rintro _ _ ⟨rfl, rfl⟩
    exact ⟨fun _ => rfl, Ext.refl _⟩
  refine RW_d (fun v9 => [(Iv n), (Iv low), (Iv high), Ud, Ud, Ud, (Bo false), v3, v4, v5, v6, v7, v8, v9, Ud]) rfl (fun _ => rfl) (fun u hu hF => ?_) (fun v9 => ?_)
  · have h11_ : (icmp .geq n low) = true → v7 = (Iv n) := hF.1
    have h12_ : (icmp .geq n low) = true → v8 = (Iv high) := hF.2.1
    have h10_ : v6 = (Bo (icmp .geq n low)) := hF.2.2.1
    clear hF
    obtain rfl := h10_
    refine doesG_g (b := (icmp .geq n low)) rfl (yld rfl rfl) (fun hg1 => ?_) (fun hc => ⟨fun hg1 => absurd hg1 hc, Ext.refl _⟩)
    obtain rfl := h11_ hg1
    obtain rfl := h12_ hg1
    refine (does_icmp (p := n) (q := high) (.inr (.inr (.inr (.inl rfl)))) (ev rfl) (ev rfl)).mono ?_; rintro _ _ ⟨rfl, rfl⟩
    exact ⟨fun _ => rfl, Ext.refl _⟩
  refine RW_d (fun v10 => [(Iv n), (Iv low), (Iv high), Ud, Ud, Ud, (Bo false), v3, v4, v5, v6, v7, v8, v9, v10]) rfl (fun _ => rfl) (fun u hu hF => ?_) (fun v10 => ?_)
  · have h10_ : v6 = (Bo (icmp .geq n low)) := hF.1
    have h13_ : (icmp .geq n low) = true → v9 = (Bo (icmp .leq n high)) := hF.2.1
    clear hF
    refine doesG_un rfl ?_
    skip
    obtain rfl := h10_
    refine (does_pick (b := (icmp .geq n low)) (u := v9) (v := (Bo false)) (ev rfl) (ev rfl) (ev rfl)).mono ?_; rintro _ _ ⟨rfl, rfl⟩; refine ⟨?_, Ext.refl _⟩; rw [hβ1]; skip
    cases hbb : (icmp .geq n low)
    all_goals first | (show _ = _; simp only [↓reduceIte, Bool.true_and, Bool.false_and, Bool.true_or, Bool.false_or, Bool.false_eq_true]; done) | (have e_ := h13_ hbb; subst e_; show _ = _; simp only [↓reduceIte, Bool.true_and, Bool.false_and, Bool.true_or, Bool.false_or, Bool.false_eq_true]; done) | rfl | (have e_ := h13_ hbb; subst e_; rfl) | (simp [hbb] at h13_ ⊢; first | done | rfl | (subst h13_; rfl) | simp_all) | (simp [hbb] at h13_ ⊢; done)
  refine RW_fin ?_; intro w11 E12 hP13
  obtain ⟨⟨⟨⟨⟨⟨⟨⟨-, -⟩, -⟩, -⟩, -⟩, -⟩, -⟩, -⟩, q14⟩ := hP13
  have X15 := Ext.gr (Ext.refl w) E12
  have q14 : v10 = (Bo β1) := q14
  obtain rfl := q14
  show wpList _ _ _ _ (fr [(Iv n), (Iv low), (Iv high), Ud, Ud, Ud, (Bo false), v3, v4, v5, v6, v7, v8, v9, (Bo β1)]) _
  refine q_is (l' := [(Iv n), (Iv low), (Iv high), Ud, Ud, Ud, (Bo β1), v3, v4, v5, v6, v7, v8, v9, (Bo β1)]) rfl rfl (does_assign (u := (Bo β1)) (ev rfl)) rfl ?_
  refine wpList_nil (hK2 _ _ ?_)
  refine wp_ret ?_
  refine ret_val (v := (Bo β1)) (res_T rfl (slot rfl)) X15 ?_
  have x16 : (inI n low high) = β1 := by first | with_reducible rfl | (simp only [inI, hβ1]; done) | (simp [inI, hβ1]; done) | rfl
  exact (by first | with_reducible rfl | rw [x16] | rfl)

end Go.Proofs.Ytcmcooabaglbpaa
