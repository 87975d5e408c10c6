/- contracts of functions, each walked once -/
import Derived.Test.YtodelpmhbdaocaaU
namespace Go.Proofs.Ytodelpmhbdaocaa
open Go Go.RowKit
set_option maxRecDepth 100000
set_option maxHeartbeats 3200000
set_option linter.unusedVariables false
set_option linter.unusedSimpArgs false

/- (*impl.Node).empty -/
theorem c_impl_Node_empty (n__b : Nat) (n__o : Nat) (n_ : List Value) (A_n_ : NodeT) (w : World) (hc_n_ : Cells w n__b n__o n_) (hv_n_ : RNodeT w A_n_ n_) (hnl : A_n_.nums.length ≤ 2097152) : Gives Try.prog 26 #[(Pt n__b n__o)] w (fun v w' => v = (Bo (empI A_n_))) := by
  obtain ⟨y1, rfl, h2⟩ := hv_n_
  have hs5 := h2; have hs5l := Sl.len h2; obtain ⟨p3, q4, rfl⟩ := Sl.shape h2
  refine enter [(Pt n__b n__o), Ud, Ud, Ud, Ud, Ud, Ud, Ud, Ud, Ud, Ud, Ud, Ud, Ud, Ud, Ud, Ud, Ud, Ud, Ud, Ud, Ud, Ud, Ud, Ud, Ud, Ud, Ud, Ud, Ud] Try.func26 rfl Try.ntmps26 rfl ?_
  refine wp_seq_k fun K6 hK6 => ?_
  refine wp_region_lit ?_
  refine q_is rfl rfl (does_assign (u := (Bo false)) (ev rfl)) (by dsimp only [List.set]; try rfl) ?_
  refine wpList_nil (hK6 _ _ ?_)
  refine wp_seq_k fun K7 hK7 => ?_
  refine wp_seq_k fun K8 hK8 => ?_
  refine wp_region_lit ?_
  refine q_is rfl rfl (does_move (u := (Pt n__b n__o)) (ev rfl)) (by dsimp only [List.set]; try rfl) ?_
  refine q_is rfl rfl (does_nilCheck (ev rfl)) (by dsimp only [List.set]; try rfl) ?_
  refine q_is rfl rfl (does_fieldAddr (ev rfl) fa37_0) (by dsimp only [List.set]; try rfl) ?_
  refine q_is rfl rfl (does_load (u := (Iv A_n_.kind)) (ev rfl) Try.isAgg2 (Cells.at hc_n_ 0 rfl)) (by dsimp only [List.set]; try rfl) ?_
  refine wpList_nil (hK8 _ _ ?_)
  refine wp_block ?_
  refine wp_seq_k fun K9 hK9 => ?_
  refine wp_seq_k fun K10 hK10 => ?_
  refine wp_region_lit ?_
  refine q_is rfl rfl (does_icmp (p := A_n_.kind) (q := 9) (.inl rfl) (ev rfl) (ev rfl)) (by dsimp only [List.set]; try rfl) ?_
  refine q_is rfl rfl (does_assign (u := (Bo (icmp .eql A_n_.kind 9))) (ev rfl)) (by dsimp only [List.set]; try rfl) ?_
  refine wpList_nil (hK10 _ _ ?_)
  refine wp_cond_split (t := icmp .eql A_n_.kind 9) (ev rfl) (fun c11 => ?_) (fun c11 => ?_)
  · have c11' := c11
    (try simp only [icmp, Bool.and_eq_true, Bool.or_eq_true, Bool.and_eq_false_iff, Bool.or_eq_false_iff, Bool.not_eq_true', Bool.not_eq_false', decide_eq_true_eq, decide_eq_false_iff_not, beq_iff_eq, bne_iff_ne, beq_eq_false_iff_ne, bne_eq_false_iff_eq] at c11')
    refine wp_skip (hK9 _ _ ?_)
    refine wp_cond_true ((ev (rfl : evl _ _ = .bool (icmp .eql A_n_.kind 9))).trans (congrArg Value.bool c11)) ?_
    refine wp_seq_k fun K12 hK12 => ?_
    obtain ⟨β1, hβ1⟩ : ∃ b : Bool, b = (sameX sameN A_n_.nums (List.replicate A_n_.nums.length (cf .f32 0))) := ⟨_, rfl⟩
    refine region_draw (
      [Fact.pure [] (fun v => v = (Pt n__b n__o)),
    Fact.pure [10] (fun v => v = (Pt n__b n__o)),
    Fact.pure [11] (fun v => v = (Pt n__b (n__o + 3))),
    Fact.pure [12] (fun v => v = (.slice p3 A_n_.nums.length q4)),
    Fact.pure [] (fun v => v = (Pt n__b n__o)),
    Fact.pure [14] (fun v => v = (Pt n__b n__o)),
    Fact.pure [15] (fun v => v = (Pt n__b (n__o + 3))),
    Fact.pure [16] (fun v => v = (.slice p3 A_n_.nums.length q4)),
    Fact.pure [17] (fun v => v = (Iv (A_n_.nums.length : Int))),
    Fact.mem [18] (fun v w' => ∃ y_1 : Value, v = y_1 ∧ Sl RF 1 w' y_1 (List.replicate A_n_.nums.length (cf .f32 0))) (by rintro v w1 w2 hx ⟨z1, rfl, k0⟩; exact ⟨_, rfl, (k0.ext RF.mono hx)⟩),
    Fact.pure [13, 19] (fun v => v = (Bo β1))]) mixed (by kernel_rfl) (by intro _ _ d _ _ h; cases d <;> exact h) ?_
    obtain ⟨w13, hw15⟩ : ∃ w', w' = World.drew w := ⟨_, rfl⟩; rw [← hw15]; have E14 : Ext w w13 := by rw [hw15]; exact Ext.draw _
    clear hw15
    have X16 := Ext.gr (Ext.refl w) E14
    refine RW_d _ rfl (fun v => by dsimp only [List.set]; try rfl) (fun u hu hF => ?_) (fun v17 => ?_)
    · clear hF
      refine doesG_un rfl ?_
      refine (does_move (u := (Pt n__b n__o)) (ev rfl)).mono ?_; rintro _ _ ⟨rfl, rfl⟩
      exact ⟨rfl, Ext.refl _⟩
    refine RW_d _ rfl (fun v => by dsimp only [List.set]; try rfl) (fun u hu hF => ?_) (fun v18 => ?_)
    · have h10_ : v17 = (Pt n__b n__o) := hF.1
      clear hF
      refine doesG_un rfl ?_
      obtain rfl := h10_
      refine (does_nilCheck (ev rfl)).mono ?_; rintro _ _ ⟨rfl, rfl⟩
      exact ⟨rfl, Ext.refl _⟩
    refine RW_d _ rfl (fun v => by dsimp only [List.set]; try rfl) (fun u hu hF => ?_) (fun v19 => ?_)
    · have h11_ : v18 = (Pt n__b n__o) := hF.1
      clear hF
      refine doesG_un rfl ?_
      obtain rfl := h11_
      refine (does_fieldAddr (ev rfl) fa37_3).mono ?_; rintro _ _ ⟨rfl, rfl⟩
      exact ⟨rfl, Ext.refl _⟩
    refine RW_d _ rfl (fun v => by dsimp only [List.set]; try rfl) (fun u hu hF => ?_) (fun v20 => ?_)
    · have h12_ : v19 = (Pt n__b (n__o + 3)) := hF.1
      clear hF
      refine doesG_un rfl ?_
      obtain rfl := h12_
      refine (does_load (u := (.slice p3 A_n_.nums.length q4)) (ev rfl) Try.isAgg32 (Cells.at ((hc_n_.ext (Ext.gr (Ext.refl w) E14)).ext hu) 3 rfl)).mono ?_; rintro _ _ ⟨rfl, rfl⟩
      exact ⟨rfl, Ext.refl _⟩
    refine RW_d _ rfl (fun v => by dsimp only [List.set]; try rfl) (fun u hu hF => ?_) (fun v21 => ?_)
    · clear hF
      refine doesG_un rfl ?_
      refine (does_move (u := (Pt n__b n__o)) (ev rfl)).mono ?_; rintro _ _ ⟨rfl, rfl⟩
      exact ⟨rfl, Ext.refl _⟩
    refine RW_d _ rfl (fun v => by dsimp only [List.set]; try rfl) (fun u hu hF => ?_) (fun v22 => ?_)
    · have h14_ : v21 = (Pt n__b n__o) := hF.1
      clear hF
      refine doesG_un rfl ?_
      obtain rfl := h14_
      refine (does_nilCheck (ev rfl)).mono ?_; rintro _ _ ⟨rfl, rfl⟩
      exact ⟨rfl, Ext.refl _⟩
    refine RW_d _ rfl (fun v => by dsimp only [List.set]; try rfl) (fun u hu hF => ?_) (fun v23 => ?_)
    · have h15_ : v22 = (Pt n__b n__o) := hF.1
      clear hF
      refine doesG_un rfl ?_
      obtain rfl := h15_
      refine (does_fieldAddr (ev rfl) fa37_3).mono ?_; rintro _ _ ⟨rfl, rfl⟩
      exact ⟨rfl, Ext.refl _⟩
    refine RW_d _ rfl (fun v => by dsimp only [List.set]; try rfl) (fun u hu hF => ?_) (fun v24 => ?_)
    · have h16_ : v23 = (Pt n__b (n__o + 3)) := hF.1
      clear hF
      refine doesG_un rfl ?_
      obtain rfl := h16_
      refine (does_load (u := (.slice p3 A_n_.nums.length q4)) (ev rfl) Try.isAgg32 (Cells.at ((hc_n_.ext (Ext.gr (Ext.refl w) E14)).ext hu) 3 rfl)).mono ?_; rintro _ _ ⟨rfl, rfl⟩
      exact ⟨rfl, Ext.refl _⟩
    refine RW_d _ rfl (fun v => by dsimp only [List.set]; try rfl) (fun u hu hF => ?_) (fun v25 => ?_)
    · have h17_ : v24 = (.slice p3 A_n_.nums.length q4) := hF.1
      clear hF
      refine doesG_un rfl ?_
      obtain rfl := h17_
      refine (does_len_slice Try.underlying32 (ev rfl)).mono ?_; rintro _ _ ⟨rfl, rfl⟩
      exact ⟨rfl, Ext.refl _⟩
    refine RW_d _ rfl (fun v => by dsimp only [List.set]; try rfl) (fun u hu hF => ?_) (fun v26 => ?_)
    · have h18_ : v25 = (Iv (A_n_.nums.length : Int)) := hF.1
      clear hF
      refine doesG_un rfl ?_
      obtain rfl := h18_
      refine (does_makeZ (n := A_n_.nums.length) Try.underlying32 inf59 (ev rfl) (ev rfl) (by omega)).mono ?_; rintro v u' ⟨hx, ⟨yn1, hv, k0⟩⟩
      exact ⟨⟨yn1, hv, k0⟩, hx⟩
    refine RW_d _ rfl (fun v => by dsimp only [List.set]; try rfl) (fun u hu hF => ?_) (fun v27 => ?_)
    · have h13_ : v20 = (.slice p3 A_n_.nums.length q4) := hF.1
      have h19_ : ∃ y_1 : Value, v26 = y_1 ∧ Sl RF 1 u y_1 (List.replicate A_n_.nums.length (cf .f32 0)) := hF.2.1
      clear hF
      refine doesG_un rfl ?_
      obtain rfl := h13_
      obtain ⟨y19_1, rfl, h19_2⟩ := h19_
      have hh19_2 := h19_2; obtain ⟨p19_3, q19_4, rfl⟩ := Sl.shape h19_2
      refine (does_call (args := #[(.slice p3 A_n_.nums.length q4), (.slice p19_3 ((List.replicate A_n_.nums.length (cf .f32 0)).length) q19_4)]) cal40 (evs rfl) (c_impl_sameList (.slice p3 A_n_.nums.length q4) A_n_.nums (.slice p19_3 ((List.replicate A_n_.nums.length (cf .f32 0)).length) q19_4) (List.replicate A_n_.nums.length (cf .f32 0)) _ (Sl.ext (Sl.ext hs5 RF.mono (Ext.gr (Ext.refl w) E14)) RF.mono hu) hh19_2)).mono ?_; rintro v u' ⟨hx, hv⟩
      exact ⟨hv.trans (by simp only [hβ1]), hx⟩
    refine RW_fin ?_; intro w28 E29 hP30
    obtain ⟨⟨⟨⟨⟨⟨⟨⟨⟨⟨⟨-, -⟩, -⟩, -⟩, -⟩, -⟩, -⟩, -⟩, -⟩, -⟩, -⟩, q31⟩ := hP30
    have X32 := Ext.gr X16 E29
    have q31 : v27 = (Bo β1) := q31
    obtain rfl := q31
    show wpList _ _ _ _ (fr [(Pt n__b n__o), Ud, (Bo false), (Pt n__b n__o), (Pt n__b n__o), (Pt n__b n__o), (Iv A_n_.kind), (Bo (icmp .eql A_n_.kind 9)), (Bo (icmp .eql A_n_.kind 9)), Ud, v17, v18, v19, v20, v21, v22, v23, v24, v25, v26, (Bo β1), Ud, Ud, Ud, Ud, Ud, Ud, Ud, Ud, Ud]) _
    refine q_is rfl rfl (does_assign (u := (Bo β1)) (ev rfl)) (by dsimp only [List.set]; try rfl) ?_
    refine wpList_nil (hK12 _ _ ?_)
    refine wp_ret ?_
    dsimp only [Exit.then, Exit.inBlock]
    refine ret_val (v := (Bo β1)) (res_T rfl (slot rfl)) X32 ?_
    try simp only [hβ1] at c11
    have x33 : (empI A_n_) = β1 := by first | (simp only [hβ1, c11]; first | exact empI_0 (.inl (by omega)) | exact empI_0 (.inr (by omega)) | exact empI_1 (by omega) (.inl (by omega)) | exact empI_1 (by omega) (.inr (by omega)) | exact empI_2 (by omega) (by omega)) | (first | exact empI_0 (.inl (by omega)) | exact empI_0 (.inr (by omega)) | exact empI_1 (by omega) (.inl (by omega)) | exact empI_1 (by omega) (.inr (by omega)) | exact empI_2 (by omega) (by omega))
    exact (by first | rfl | rw [x33])
  have c11' := c11
  (try simp only [icmp, Bool.and_eq_true, Bool.or_eq_true, Bool.and_eq_false_iff, Bool.or_eq_false_iff, Bool.not_eq_true', Bool.not_eq_false', decide_eq_true_eq, decide_eq_false_iff_not, beq_iff_eq, bne_iff_ne, beq_eq_false_iff_ne, bne_eq_false_iff_eq] at c11')
  refine wp_region_lit ?_
  refine q_is rfl rfl (does_icmp (p := A_n_.kind) (q := 15) (.inl rfl) (ev rfl) (ev rfl)) (by dsimp only [List.set]; try rfl) ?_
  refine q_is rfl rfl (does_assign (u := (Bo (icmp .eql A_n_.kind 15))) (ev rfl)) (by dsimp only [List.set]; try rfl) ?_
  refine wpList_nil (hK9 _ _ ?_)
  refine wp_cond_split (t := icmp .eql A_n_.kind 15) (ev rfl) (fun c34 => ?_) (fun c34 => ?_)
  · have c34' := c34
    (try simp only [icmp, Bool.and_eq_true, Bool.or_eq_true, Bool.and_eq_false_iff, Bool.or_eq_false_iff, Bool.not_eq_true', Bool.not_eq_false', decide_eq_true_eq, decide_eq_false_iff_not, beq_iff_eq, bne_iff_ne, beq_eq_false_iff_ne, bne_eq_false_iff_eq] at c34')
    refine wp_seq_k fun K35 hK35 => ?_
    obtain ⟨β2, hβ2⟩ : ∃ b : Bool, b = (sameX sameN A_n_.nums (List.replicate A_n_.nums.length (cf .f32 0))) := ⟨_, rfl⟩
    refine region_draw (
      [Fact.pure [] (fun v => v = (Pt n__b n__o)),
    Fact.pure [10] (fun v => v = (Pt n__b n__o)),
    Fact.pure [11] (fun v => v = (Pt n__b (n__o + 3))),
    Fact.pure [12] (fun v => v = (.slice p3 A_n_.nums.length q4)),
    Fact.pure [] (fun v => v = (Pt n__b n__o)),
    Fact.pure [14] (fun v => v = (Pt n__b n__o)),
    Fact.pure [15] (fun v => v = (Pt n__b (n__o + 3))),
    Fact.pure [16] (fun v => v = (.slice p3 A_n_.nums.length q4)),
    Fact.pure [17] (fun v => v = (Iv (A_n_.nums.length : Int))),
    Fact.mem [18] (fun v w' => ∃ y_1 : Value, v = y_1 ∧ Sl RF 1 w' y_1 (List.replicate A_n_.nums.length (cf .f32 0))) (by rintro v w1 w2 hx ⟨z1, rfl, k0⟩; exact ⟨_, rfl, (k0.ext RF.mono hx)⟩),
    Fact.pure [13, 19] (fun v => v = (Bo β2))]) mixed (by kernel_rfl) (by intro _ _ d _ _ h; cases d <;> exact h) ?_
    obtain ⟨w36, hw38⟩ : ∃ w', w' = World.drew w := ⟨_, rfl⟩; rw [← hw38]; have E37 : Ext w w36 := by rw [hw38]; exact Ext.draw _
    clear hw38
    have X39 := Ext.gr (Ext.refl w) E37
    refine RW_d _ rfl (fun v => by dsimp only [List.set]; try rfl) (fun u hu hF => ?_) (fun v40 => ?_)
    · clear hF
      refine doesG_un rfl ?_
      refine (does_move (u := (Pt n__b n__o)) (ev rfl)).mono ?_; rintro _ _ ⟨rfl, rfl⟩
      exact ⟨rfl, Ext.refl _⟩
    refine RW_d _ rfl (fun v => by dsimp only [List.set]; try rfl) (fun u hu hF => ?_) (fun v41 => ?_)
    · have h10_ : v40 = (Pt n__b n__o) := hF.1
      clear hF
      refine doesG_un rfl ?_
      obtain rfl := h10_
      refine (does_nilCheck (ev rfl)).mono ?_; rintro _ _ ⟨rfl, rfl⟩
      exact ⟨rfl, Ext.refl _⟩
    refine RW_d _ rfl (fun v => by dsimp only [List.set]; try rfl) (fun u hu hF => ?_) (fun v42 => ?_)
    · have h11_ : v41 = (Pt n__b n__o) := hF.1
      clear hF
      refine doesG_un rfl ?_
      obtain rfl := h11_
      refine (does_fieldAddr (ev rfl) fa37_3).mono ?_; rintro _ _ ⟨rfl, rfl⟩
      exact ⟨rfl, Ext.refl _⟩
    refine RW_d _ rfl (fun v => by dsimp only [List.set]; try rfl) (fun u hu hF => ?_) (fun v43 => ?_)
    · have h12_ : v42 = (Pt n__b (n__o + 3)) := hF.1
      clear hF
      refine doesG_un rfl ?_
      obtain rfl := h12_
      refine (does_load (u := (.slice p3 A_n_.nums.length q4)) (ev rfl) Try.isAgg32 (Cells.at ((hc_n_.ext (Ext.gr (Ext.refl w) E37)).ext hu) 3 rfl)).mono ?_; rintro _ _ ⟨rfl, rfl⟩
      exact ⟨rfl, Ext.refl _⟩
    refine RW_d _ rfl (fun v => by dsimp only [List.set]; try rfl) (fun u hu hF => ?_) (fun v44 => ?_)
    · clear hF
      refine doesG_un rfl ?_
      refine (does_move (u := (Pt n__b n__o)) (ev rfl)).mono ?_; rintro _ _ ⟨rfl, rfl⟩
      exact ⟨rfl, Ext.refl _⟩
    refine RW_d _ rfl (fun v => by dsimp only [List.set]; try rfl) (fun u hu hF => ?_) (fun v45 => ?_)
    · have h14_ : v44 = (Pt n__b n__o) := hF.1
      clear hF
      refine doesG_un rfl ?_
      obtain rfl := h14_
      refine (does_nilCheck (ev rfl)).mono ?_; rintro _ _ ⟨rfl, rfl⟩
      exact ⟨rfl, Ext.refl _⟩
    refine RW_d _ rfl (fun v => by dsimp only [List.set]; try rfl) (fun u hu hF => ?_) (fun v46 => ?_)
    · have h15_ : v45 = (Pt n__b n__o) := hF.1
      clear hF
      refine doesG_un rfl ?_
      obtain rfl := h15_
      refine (does_fieldAddr (ev rfl) fa37_3).mono ?_; rintro _ _ ⟨rfl, rfl⟩
      exact ⟨rfl, Ext.refl _⟩
    refine RW_d _ rfl (fun v => by dsimp only [List.set]; try rfl) (fun u hu hF => ?_) (fun v47 => ?_)
    · have h16_ : v46 = (Pt n__b (n__o + 3)) := hF.1
      clear hF
      refine doesG_un rfl ?_
      obtain rfl := h16_
      refine (does_load (u := (.slice p3 A_n_.nums.length q4)) (ev rfl) Try.isAgg32 (Cells.at ((hc_n_.ext (Ext.gr (Ext.refl w) E37)).ext hu) 3 rfl)).mono ?_; rintro _ _ ⟨rfl, rfl⟩
      exact ⟨rfl, Ext.refl _⟩
    refine RW_d _ rfl (fun v => by dsimp only [List.set]; try rfl) (fun u hu hF => ?_) (fun v48 => ?_)
    · have h17_ : v47 = (.slice p3 A_n_.nums.length q4) := hF.1
      clear hF
      refine doesG_un rfl ?_
      obtain rfl := h17_
      refine (does_len_slice Try.underlying32 (ev rfl)).mono ?_; rintro _ _ ⟨rfl, rfl⟩
      exact ⟨rfl, Ext.refl _⟩
    refine RW_d _ rfl (fun v => by dsimp only [List.set]; try rfl) (fun u hu hF => ?_) (fun v49 => ?_)
    · have h18_ : v48 = (Iv (A_n_.nums.length : Int)) := hF.1
      clear hF
      refine doesG_un rfl ?_
      obtain rfl := h18_
      refine (does_makeZ (n := A_n_.nums.length) Try.underlying32 inf59 (ev rfl) (ev rfl) (by omega)).mono ?_; rintro v u' ⟨hx, ⟨yn1, hv, k0⟩⟩
      exact ⟨⟨yn1, hv, k0⟩, hx⟩
    refine RW_d _ rfl (fun v => by dsimp only [List.set]; try rfl) (fun u hu hF => ?_) (fun v50 => ?_)
    · have h13_ : v43 = (.slice p3 A_n_.nums.length q4) := hF.1
      have h19_ : ∃ y_1 : Value, v49 = y_1 ∧ Sl RF 1 u y_1 (List.replicate A_n_.nums.length (cf .f32 0)) := hF.2.1
      clear hF
      refine doesG_un rfl ?_
      obtain rfl := h13_
      obtain ⟨y19_1, rfl, h19_2⟩ := h19_
      have hh19_2 := h19_2; obtain ⟨p19_3, q19_4, rfl⟩ := Sl.shape h19_2
      refine (does_call (args := #[(.slice p3 A_n_.nums.length q4), (.slice p19_3 ((List.replicate A_n_.nums.length (cf .f32 0)).length) q19_4)]) cal40 (evs rfl) (c_impl_sameList (.slice p3 A_n_.nums.length q4) A_n_.nums (.slice p19_3 ((List.replicate A_n_.nums.length (cf .f32 0)).length) q19_4) (List.replicate A_n_.nums.length (cf .f32 0)) _ (Sl.ext (Sl.ext hs5 RF.mono (Ext.gr (Ext.refl w) E37)) RF.mono hu) hh19_2)).mono ?_; rintro v u' ⟨hx, hv⟩
      exact ⟨hv.trans (by simp only [hβ2]), hx⟩
    refine RW_fin ?_; intro w51 E52 hP53
    obtain ⟨⟨⟨⟨⟨⟨⟨⟨⟨⟨⟨-, -⟩, -⟩, -⟩, -⟩, -⟩, -⟩, -⟩, -⟩, -⟩, -⟩, q54⟩ := hP53
    have X55 := Ext.gr X39 E52
    have q54 : v50 = (Bo β2) := q54
    obtain rfl := q54
    show wpList _ _ _ _ (fr [(Pt n__b n__o), Ud, (Bo false), (Pt n__b n__o), (Pt n__b n__o), (Pt n__b n__o), (Iv A_n_.kind), (Bo (icmp .eql A_n_.kind 15)), (Bo (icmp .eql A_n_.kind 9)), (Bo (icmp .eql A_n_.kind 15)), v40, v41, v42, v43, v44, v45, v46, v47, v48, v49, (Bo β2), Ud, Ud, Ud, Ud, Ud, Ud, Ud, Ud, Ud]) _
    refine q_is rfl rfl (does_assign (u := (Bo β2)) (ev rfl)) (by dsimp only [List.set]; try rfl) ?_
    refine wpList_nil (hK35 _ _ ?_)
    refine wp_ret ?_
    dsimp only [Exit.then, Exit.inBlock]
    refine ret_val (v := (Bo β2)) (res_T rfl (slot rfl)) X55 ?_
    try simp only [hβ2] at c11 c34
    have x56 : (empI A_n_) = β2 := by first | (simp only [hβ2, c11, c34]; first | exact empI_0 (.inl (by omega)) | exact empI_0 (.inr (by omega)) | exact empI_1 (by omega) (.inl (by omega)) | exact empI_1 (by omega) (.inr (by omega)) | exact empI_2 (by omega) (by omega)) | (first | exact empI_0 (.inl (by omega)) | exact empI_0 (.inr (by omega)) | exact empI_1 (by omega) (.inl (by omega)) | exact empI_1 (by omega) (.inr (by omega)) | exact empI_2 (by omega) (by omega))
    exact (by first | rfl | rw [x56])
  have c34' := c34
  (try simp only [icmp, Bool.and_eq_true, Bool.or_eq_true, Bool.and_eq_false_iff, Bool.or_eq_false_iff, Bool.not_eq_true', Bool.not_eq_false', decide_eq_true_eq, decide_eq_false_iff_not, beq_iff_eq, bne_iff_ne, beq_eq_false_iff_ne, bne_eq_false_iff_eq] at c34')
  refine wp_seq_k fun K57 hK57 => ?_
  refine wp_seq_k fun K58 hK58 => ?_
  refine wp_region_lit ?_
  refine q_is rfl rfl (does_icmp (p := A_n_.kind) (q := 10) (.inl rfl) (ev rfl) (ev rfl)) (by dsimp only [List.set]; try rfl) ?_
  refine q_is rfl rfl (does_assign (u := (Bo (icmp .eql A_n_.kind 10))) (ev rfl)) (by dsimp only [List.set]; try rfl) ?_
  refine wpList_nil (hK58 _ _ ?_)
  refine wp_cond_split (t := icmp .eql A_n_.kind 10) (ev rfl) (fun c59 => ?_) (fun c59 => ?_)
  · have c59' := c59
    (try simp only [icmp, Bool.and_eq_true, Bool.or_eq_true, Bool.and_eq_false_iff, Bool.or_eq_false_iff, Bool.not_eq_true', Bool.not_eq_false', decide_eq_true_eq, decide_eq_false_iff_not, beq_iff_eq, bne_iff_ne, beq_eq_false_iff_ne, bne_eq_false_iff_eq] at c59')
    refine wp_skip (hK57 _ _ ?_)
    refine wp_cond_true ((ev (rfl : evl _ _ = .bool (icmp .eql A_n_.kind 10))).trans (congrArg Value.bool c59)) ?_
    refine wp_seq_k fun K60 hK60 => ?_
    refine wp_region_lit ?_
    refine q_is rfl rfl (does_move (u := (Pt n__b n__o)) (ev rfl)) (by dsimp only [List.set]; try rfl) ?_
    refine q_is rfl rfl (does_nilCheck (ev rfl)) (by dsimp only [List.set]; try rfl) ?_
    refine q_is rfl rfl (does_fieldAddr (ev rfl) fa37_3) (by dsimp only [List.set]; try rfl) ?_
    refine q_is rfl rfl (does_load (u := (.slice p3 A_n_.nums.length q4)) (ev rfl) Try.isAgg32 (Cells.at hc_n_ 3 rfl)) (by dsimp only [List.set]; try rfl) ?_
    refine seqd rfl rfl (does_call (args := #[(.slice p3 A_n_.nums.length q4), (.func (.func 41) #[] #[])]) cal38 (evs rfl) (c_slices_ContainsFunc_float32_float32 (.slice p3 A_n_.nums.length q4) A_n_.nums (.func (.func 41) #[] #[]) (fun x => fcmp .neq (ford .f32 x (cf .f32 1065353216))) _ hs5 ⟨41, #[], #[], rfl, cal41, fun r u hu' => by simpa using (c_impl_Node_empty_1 r u)⟩)) ?_; rintro _ w62 ⟨E61, rfl⟩
    have X63 := Ext.gr (Ext.refl w) E61
    show wpList _ _ _ _ (fr [(Pt n__b n__o), Ud, (Bo false), (Pt n__b n__o), (Pt n__b n__o), (Pt n__b n__o), (Iv A_n_.kind), (Bo (icmp .eql A_n_.kind 15)), (Bo (icmp .eql A_n_.kind 9)), (Bo (icmp .eql A_n_.kind 15)), Ud, Ud, Ud, Ud, Ud, Ud, Ud, Ud, Ud, Ud, Ud, (Bo (icmp .eql A_n_.kind 10)), (Bo (icmp .eql A_n_.kind 10)), Ud, (Pt n__b n__o), (Pt n__b n__o), (Pt n__b (n__o + 3)), (.slice p3 A_n_.nums.length q4), (Bo (A_n_.nums.any (fun x => fcmp .neq (ford .f32 x (cf .f32 1065353216))))), Ud]) _
    refine q_is rfl rfl (does_not (ev rfl)) (by dsimp only [List.set]; try rfl) ?_
    refine q_is rfl rfl (does_assign (u := (Bo (!(A_n_.nums.any (fun x => fcmp .neq (ford .f32 x (cf .f32 1065353216))))))) (ev rfl)) (by dsimp only [List.set]; try rfl) ?_
    refine wpList_nil (hK60 _ _ ?_)
    refine wp_ret ?_
    dsimp only [Exit.then, Exit.inBlock]
    refine ret_val (v := (Bo (!(A_n_.nums.any (fun x => fcmp .neq (ford .f32 x (cf .f32 1065353216))))))) (res_T rfl (slot rfl)) X63 ?_
    have x64 : (empI A_n_) = (!(A_n_.nums.any (fun x => fcmp .neq (ford .f32 x (cf .f32 1065353216))))) := by first | (simp only [c11, c34, c59]; first | exact empI_0 (.inl (by omega)) | exact empI_0 (.inr (by omega)) | exact empI_1 (by omega) (.inl (by omega)) | exact empI_1 (by omega) (.inr (by omega)) | exact empI_2 (by omega) (by omega)) | (first | exact empI_0 (.inl (by omega)) | exact empI_0 (.inr (by omega)) | exact empI_1 (by omega) (.inl (by omega)) | exact empI_1 (by omega) (.inr (by omega)) | exact empI_2 (by omega) (by omega))
    exact (by first | rfl | rw [x64])
  have c59' := c59
  (try simp only [icmp, Bool.and_eq_true, Bool.or_eq_true, Bool.and_eq_false_iff, Bool.or_eq_false_iff, Bool.not_eq_true', Bool.not_eq_false', decide_eq_true_eq, decide_eq_false_iff_not, beq_iff_eq, bne_iff_ne, beq_eq_false_iff_ne, bne_eq_false_iff_eq] at c59')
  refine wp_region_lit ?_
  refine q_is rfl rfl (does_icmp (p := A_n_.kind) (q := 11) (.inl rfl) (ev rfl) (ev rfl)) (by dsimp only [List.set]; try rfl) ?_
  refine q_is rfl rfl (does_assign (u := (Bo (icmp .eql A_n_.kind 11))) (ev rfl)) (by dsimp only [List.set]; try rfl) ?_
  refine wpList_nil (hK57 _ _ ?_)
  refine wp_cond_split (t := icmp .eql A_n_.kind 11) (ev rfl) (fun c65 => ?_) (fun c65 => ?_)
  · have c65' := c65
    (try simp only [icmp, Bool.and_eq_true, Bool.or_eq_true, Bool.and_eq_false_iff, Bool.or_eq_false_iff, Bool.not_eq_true', Bool.not_eq_false', decide_eq_true_eq, decide_eq_false_iff_not, beq_iff_eq, bne_iff_ne, beq_eq_false_iff_ne, bne_eq_false_iff_eq] at c65')
    refine wp_seq_k fun K66 hK66 => ?_
    refine wp_region_lit ?_
    refine q_is rfl rfl (does_move (u := (Pt n__b n__o)) (ev rfl)) (by dsimp only [List.set]; try rfl) ?_
    refine q_is rfl rfl (does_nilCheck (ev rfl)) (by dsimp only [List.set]; try rfl) ?_
    refine q_is rfl rfl (does_fieldAddr (ev rfl) fa37_3) (by dsimp only [List.set]; try rfl) ?_
    refine q_is rfl rfl (does_load (u := (.slice p3 A_n_.nums.length q4)) (ev rfl) Try.isAgg32 (Cells.at hc_n_ 3 rfl)) (by dsimp only [List.set]; try rfl) ?_
    refine seqd rfl rfl (does_call (args := #[(.slice p3 A_n_.nums.length q4), (.func (.func 41) #[] #[])]) cal38 (evs rfl) (c_slices_ContainsFunc_float32_float32 (.slice p3 A_n_.nums.length q4) A_n_.nums (.func (.func 41) #[] #[]) (fun x => fcmp .neq (ford .f32 x (cf .f32 1065353216))) _ hs5 ⟨41, #[], #[], rfl, cal41, fun r u hu' => by simpa using (c_impl_Node_empty_1 r u)⟩)) ?_; rintro _ w68 ⟨E67, rfl⟩
    have X69 := Ext.gr (Ext.refl w) E67
    show wpList _ _ _ _ (fr [(Pt n__b n__o), Ud, (Bo false), (Pt n__b n__o), (Pt n__b n__o), (Pt n__b n__o), (Iv A_n_.kind), (Bo (icmp .eql A_n_.kind 15)), (Bo (icmp .eql A_n_.kind 9)), (Bo (icmp .eql A_n_.kind 15)), Ud, Ud, Ud, Ud, Ud, Ud, Ud, Ud, Ud, Ud, Ud, (Bo (icmp .eql A_n_.kind 11)), (Bo (icmp .eql A_n_.kind 10)), (Bo (icmp .eql A_n_.kind 11)), (Pt n__b n__o), (Pt n__b n__o), (Pt n__b (n__o + 3)), (.slice p3 A_n_.nums.length q4), (Bo (A_n_.nums.any (fun x => fcmp .neq (ford .f32 x (cf .f32 1065353216))))), Ud]) _
    refine q_is rfl rfl (does_not (ev rfl)) (by dsimp only [List.set]; try rfl) ?_
    refine q_is rfl rfl (does_assign (u := (Bo (!(A_n_.nums.any (fun x => fcmp .neq (ford .f32 x (cf .f32 1065353216))))))) (ev rfl)) (by dsimp only [List.set]; try rfl) ?_
    refine wpList_nil (hK66 _ _ ?_)
    refine wp_ret ?_
    dsimp only [Exit.then, Exit.inBlock]
    refine ret_val (v := (Bo (!(A_n_.nums.any (fun x => fcmp .neq (ford .f32 x (cf .f32 1065353216))))))) (res_T rfl (slot rfl)) X69 ?_
    have x70 : (empI A_n_) = (!(A_n_.nums.any (fun x => fcmp .neq (ford .f32 x (cf .f32 1065353216))))) := by first | (simp only [c11, c34, c59, c65]; first | exact empI_0 (.inl (by omega)) | exact empI_0 (.inr (by omega)) | exact empI_1 (by omega) (.inl (by omega)) | exact empI_1 (by omega) (.inr (by omega)) | exact empI_2 (by omega) (by omega)) | (first | exact empI_0 (.inl (by omega)) | exact empI_0 (.inr (by omega)) | exact empI_1 (by omega) (.inl (by omega)) | exact empI_1 (by omega) (.inr (by omega)) | exact empI_2 (by omega) (by omega))
    exact (by first | rfl | rw [x70])
  have c65' := c65
  (try simp only [icmp, Bool.and_eq_true, Bool.or_eq_true, Bool.and_eq_false_iff, Bool.or_eq_false_iff, Bool.not_eq_true', Bool.not_eq_false', decide_eq_true_eq, decide_eq_false_iff_not, beq_iff_eq, bne_iff_ne, beq_eq_false_iff_ne, bne_eq_false_iff_eq] at c65')
  refine wp_skip (hK7 _ _ ?_)
  refine wp_seq_k fun K71 hK71 => ?_
  refine wp_region_lit ?_
  refine q_is rfl rfl (does_assign (u := (Bo false)) (ev rfl)) (by dsimp only [List.set]; try rfl) ?_
  refine wpList_nil (hK71 _ _ ?_)
  refine wp_ret ?_
  refine ret_val (v := (Bo false)) (res_T rfl (slot rfl)) (Ext.refl w) ?_
  have x72 : (empI A_n_) = false := by first | (simp only [c11, c34, c59, c65]; first | exact empI_0 (.inl (by omega)) | exact empI_0 (.inr (by omega)) | exact empI_1 (by omega) (.inl (by omega)) | exact empI_1 (by omega) (.inr (by omega)) | exact empI_2 (by omega) (by omega)) | (first | exact empI_0 (.inl (by omega)) | exact empI_0 (.inr (by omega)) | exact empI_1 (by omega) (.inl (by omega)) | exact empI_1 (by omega) (.inr (by omega)) | exact empI_2 (by omega) (by omega))
  exact (by first | rfl | rw [x72])

/- impl.IsEmptyNode -/
theorem c_impl_IsEmptyNode (n_ : List Value) (A_n_ : NodeT) (w : World) (hv_n_ : RNodeT w A_n_ n_) (hnl : A_n_.nums.length ≤ 2097152) : Gives Try.prog 13 #[(.agg n_.toArray)] w (fun v w' => v = (Bo (isEmI A_n_))) := by
  obtain ⟨y1, rfl, h2⟩ := hv_n_
  have hs5 := h2; have hs5l := Sl.len h2; obtain ⟨p3, q4, rfl⟩ := Sl.shape h2
  refine enter [(.agg #[(Iv A_n_.kind), (Iv A_n_.a), (Iv A_n_.b), (.slice p3 A_n_.nums.length q4)]), Ud, Ud, Ud, Ud, Ud, Ud, Ud, Ud, Ud, Ud] Try.func13 rfl Try.ntmps13 rfl ?_
  refine wp_seq_k fun K6 hK6 => ?_
  refine wp_region_lit ?_
  refine seqd rfl rfl (does_box (u := (.agg #[(Iv A_n_.kind), (Iv A_n_.a), (Iv A_n_.b), (.slice p3 A_n_.nums.length q4)])) (ev rfl)) ?_; rintro _ w11 ⟨b7, rfl, hb8, hB9, E10⟩
  have g12 : w.heap.size ≤ b7 := Nat.le_trans (Below.size (Ext.refl w)) hb8
  change Blk _ _ [(Iv A_n_.kind), (Iv A_n_.a), (Iv A_n_.b), (.slice p3 A_n_.nums.length q4)] at hB9
  have X13 := Ext.gr (Ext.refl w) E10
  show wpList _ _ _ _ (fr [(.agg #[(Iv A_n_.kind), (Iv A_n_.a), (Iv A_n_.b), (.slice p3 A_n_.nums.length q4)]), (Pt b7 0), Ud, Ud, Ud, Ud, Ud, Ud, Ud, Ud, Ud]) _
  refine q_is (l' := [(.agg #[(Iv A_n_.kind), (Iv A_n_.a), (Iv A_n_.b), (.slice p3 A_n_.nums.length q4)]), (Pt b7 0), (Bo false), Ud, Ud, Ud, Ud, Ud, Ud, Ud, Ud]) rfl rfl (does_assign (u := (Bo false)) (ev rfl)) rfl ?_
  refine wpList_nil (hK6 _ _ ?_)
  refine wp_seq_k fun K14 hK14 => ?_
  obtain ⟨β1, hβ1⟩ : ∃ b : Bool, b = (rlOk A_n_.kind && nodeNums A_n_.kind A_n_.nums) := ⟨_, rfl⟩
  refine region_text (
    [Fact.pure [] (fun v => v = (Pt b7 0)),
    Fact.pure [3] (fun v => v = (Iv A_n_.kind)),
    Fact.pure [] (fun v => v = (Pt b7 3)),
    Fact.pure [5] (fun v => v = (.slice p3 A_n_.nums.length q4)),
    Fact.pure [4, 6] (fun v => v = (Bo β1)),
    Fact.pure [7] (fun v => v = (Bo β1)),
    Fact.pure [8] (fun v => β1 = true → v = (Bo (empI A_n_))),
    Fact.pure [8, 9] (fun v => v = (Bo (β1 && (empI A_n_))))]) (by simp [Fact.pure, Fact.mem]) ?_
  refine RW_d (fun v15 => [(.agg #[(Iv A_n_.kind), (Iv A_n_.a), (Iv A_n_.b), (.slice p3 A_n_.nums.length q4)]), (Pt b7 0), (Bo false), v15, Ud, Ud, Ud, Ud, Ud, Ud, Ud]) rfl (fun _ => rfl) (fun u hu hF => ?_) (fun v15 => ?_)
  · clear hF
    refine doesG_un rfl ?_
    refine (does_fieldAddr (ev rfl) fa37_0).mono ?_; rintro _ _ ⟨rfl, rfl⟩
    exact ⟨rfl, Ext.refl _⟩
  refine RW_d (fun v16 => [(.agg #[(Iv A_n_.kind), (Iv A_n_.a), (Iv A_n_.b), (.slice p3 A_n_.nums.length q4)]), (Pt b7 0), (Bo false), v15, v16, Ud, Ud, Ud, Ud, Ud, Ud]) rfl (fun _ => rfl) (fun u hu hF => ?_) (fun v16 => ?_)
  · have h3_ : v15 = (Pt b7 0) := hF.1
    clear hF
    refine doesG_un rfl ?_
    obtain rfl := h3_
    refine (does_load (u := (Iv A_n_.kind)) (ev rfl) Try.isAgg2 (Cells.at (Blk.cells (hB9.ext hu)) 0 rfl)).mono ?_; rintro _ _ ⟨rfl, rfl⟩
    exact ⟨rfl, Ext.refl _⟩
  refine RW_d (fun v17 => [(.agg #[(Iv A_n_.kind), (Iv A_n_.a), (Iv A_n_.b), (.slice p3 A_n_.nums.length q4)]), (Pt b7 0), (Bo false), v15, v16, v17, Ud, Ud, Ud, Ud, Ud]) rfl (fun _ => rfl) (fun u hu hF => ?_) (fun v17 => ?_)
  · clear hF
    refine doesG_un rfl ?_
    refine (does_fieldAddr (ev rfl) fa37_3).mono ?_; rintro _ _ ⟨rfl, rfl⟩
    exact ⟨rfl, Ext.refl _⟩
  refine RW_d (fun v18 => [(.agg #[(Iv A_n_.kind), (Iv A_n_.a), (Iv A_n_.b), (.slice p3 A_n_.nums.length q4)]), (Pt b7 0), (Bo false), v15, v16, v17, v18, Ud, Ud, Ud, Ud]) rfl (fun _ => rfl) (fun u hu hF => ?_) (fun v18 => ?_)
  · have h5_ : v17 = (Pt b7 3) := hF.1
    clear hF
    refine doesG_un rfl ?_
    obtain rfl := h5_
    refine (does_load (u := (.slice p3 A_n_.nums.length q4)) (ev rfl) Try.isAgg32 (Cells.at (Blk.cells (hB9.ext hu)) 3 rfl)).mono ?_; rintro _ _ ⟨rfl, rfl⟩
    exact ⟨rfl, Ext.refl _⟩
  refine RW_d (fun v19 => [(.agg #[(Iv A_n_.kind), (Iv A_n_.a), (Iv A_n_.b), (.slice p3 A_n_.nums.length q4)]), (Pt b7 0), (Bo false), v15, v16, v17, v18, v19, Ud, Ud, Ud]) rfl (fun _ => rfl) (fun u hu hF => ?_) (fun v19 => ?_)
  · have h4_ : v16 = (Iv A_n_.kind) := hF.1
    have h6_ : v18 = (.slice p3 A_n_.nums.length q4) := hF.2.1
    clear hF
    refine doesG_un rfl ?_
    obtain rfl := h4_
    obtain rfl := h6_
    refine (does_call (args := #[(Iv A_n_.kind), (.slice p3 A_n_.nums.length q4)]) cal25 (evs rfl) (c_impl_numbersOk A_n_.kind (.slice p3 A_n_.nums.length q4) A_n_.nums _ (Sl.ext (Sl.ext hs5 RF.mono X13) RF.mono hu))).mono ?_; rintro v u' ⟨hx, hv⟩
    exact ⟨hv.trans (by simp only [hβ1]), hx⟩
  refine RW_d (fun v20 => [(.agg #[(Iv A_n_.kind), (Iv A_n_.a), (Iv A_n_.b), (.slice p3 A_n_.nums.length q4)]), (Pt b7 0), (Bo false), v15, v16, v17, v18, v19, v20, Ud, Ud]) rfl (fun _ => rfl) (fun u hu hF => ?_) (fun v20 => ?_)
  · have h7_ : v19 = (Bo β1) := hF.1
    clear hF
    refine doesG_un rfl ?_
    obtain rfl := h7_
    refine (does_move (u := (Bo β1)) (ev rfl)).mono ?_; rintro _ _ ⟨rfl, rfl⟩
    exact ⟨rfl, Ext.refl _⟩
  refine RW_d (fun v21 => [(.agg #[(Iv A_n_.kind), (Iv A_n_.a), (Iv A_n_.b), (.slice p3 A_n_.nums.length q4)]), (Pt b7 0), (Bo false), v15, v16, v17, v18, v19, v20, v21, Ud]) rfl (fun _ => rfl) (fun u hu hF => ?_) (fun v21 => ?_)
  · have h8_ : v20 = (Bo β1) := hF.1
    clear hF
    obtain rfl := h8_
    refine doesG_g (b := β1) rfl (yld rfl rfl) (fun hg1 => ?_) (fun hc => ⟨fun hg1 => absurd hg1 hc, Ext.refl _⟩)
    refine (does_call (args := #[(Pt b7 0)]) cal26 (evs rfl) (c_impl_Node_empty b7 0 [(Iv A_n_.kind), (Iv A_n_.a), (Iv A_n_.b), (.slice p3 A_n_.nums.length q4)] A_n_ _ (Blk.cells (hB9.ext hu)) ⟨(.slice p3 A_n_.nums.length q4), rfl, (Sl.ext (Sl.ext hs5 RF.mono X13) RF.mono hu)⟩ (by omega))).mono ?_; rintro v u' ⟨hx, hv⟩
    exact ⟨fun _ => hv, hx⟩
  refine RW_d (fun v22 => [(.agg #[(Iv A_n_.kind), (Iv A_n_.a), (Iv A_n_.b), (.slice p3 A_n_.nums.length q4)]), (Pt b7 0), (Bo false), v15, v16, v17, v18, v19, v20, v21, v22]) rfl (fun _ => rfl) (fun u hu hF => ?_) (fun v22 => ?_)
  · have h8_ : v20 = (Bo β1) := hF.1
    have h9_ : β1 = true → v21 = (Bo (empI A_n_)) := hF.2.1
    clear hF
    refine doesG_un rfl ?_
    skip
    obtain rfl := h8_
    refine (does_pick (b := β1) (ev rfl) (ev rfl) (ev rfl)).mono ?_; rintro _ _ ⟨rfl, rfl⟩; refine ⟨?_, Ext.refl _⟩; skip
    cases hbb : β1 <;> simp [hbb] at h9_ ⊢
    all_goals (first | rfl | (subst h9_; rfl) | simp_all)
  refine RW_fin ?_; intro w23 E24 hP25
  obtain ⟨⟨⟨⟨⟨⟨⟨⟨-, -⟩, -⟩, -⟩, -⟩, -⟩, -⟩, -⟩, q26⟩ := hP25
  have X27 := Ext.gr X13 E24
  have q26 : v22 = (Bo (β1 && (empI A_n_))) := q26
  obtain rfl := q26
  show wpList _ _ _ _ (fr [(.agg #[(Iv A_n_.kind), (Iv A_n_.a), (Iv A_n_.b), (.slice p3 A_n_.nums.length q4)]), (Pt b7 0), (Bo false), v15, v16, v17, v18, v19, v20, v21, (Bo (β1 && (empI A_n_)))]) _
  refine q_is (l' := [(.agg #[(Iv A_n_.kind), (Iv A_n_.a), (Iv A_n_.b), (.slice p3 A_n_.nums.length q4)]), (Pt b7 0), (Bo (β1 && (empI A_n_))), v15, v16, v17, v18, v19, v20, v21, (Bo (β1 && (empI A_n_)))]) rfl rfl (does_assign (u := (Bo (β1 && (empI A_n_)))) (ev rfl)) rfl ?_
  refine wpList_nil (hK14 _ _ ?_)
  refine wp_ret ?_
  refine ret_val (v := (Bo (β1 && (empI A_n_)))) (res_T rfl (slot rfl)) X27 ?_
  have x28 : (isEmI A_n_) = (β1 && (empI A_n_)) := by first | with_reducible rfl | (simp only [isEmI, hβ1]; done) | (simp [isEmI, hβ1]; done) | rfl
  exact (by first | rfl | rw [x28])

/- laws.FnExactIsEmptyNode -/
theorem c_laws_FnExactIsEmptyNode (a : List Value) (A_a : NodeT) (w : World) (hv_a : RNodeT w A_a a) (hba : bdN A_a) : Gives Try.prog 4 #[(.agg a.toArray)] w (fun v w' => v = (Bo true)) := by
  obtain ⟨y1, rfl, h2⟩ := hv_a
  have hs5 := h2; have hs5l := Sl.len h2; obtain ⟨p3, q4, rfl⟩ := Sl.shape h2
  have hem := isEm_eq hba
  refine enter [(.agg #[(Iv A_a.kind), (Iv A_a.a), (Iv A_a.b), (.slice p3 A_a.nums.length q4)]), Ud, Ud, Ud, Ud, Ud, Ud, Ud, Ud, Ud, Ud, Ud, Ud, Ud, Ud, Ud, Ud, Ud, Ud, Ud, Ud, Ud, Ud, Ud, Ud, Ud, Ud] Try.func4 rfl Try.ntmps4 rfl ?_
  refine wp_seq_k fun K6 hK6 => ?_
  refine wp_region_lit ?_
  refine seqd rfl rfl (does_box (u := (.agg #[(Iv A_a.kind), (Iv A_a.a), (Iv A_a.b), (.slice p3 A_a.nums.length q4)])) (ev rfl)) ?_; rintro _ w11 ⟨b7, rfl, hb8, hB9, E10⟩
  have g12 : w.heap.size ≤ b7 := Nat.le_trans (Below.size (Ext.refl w)) hb8
  change Blk _ _ [(Iv A_a.kind), (Iv A_a.a), (Iv A_a.b), (.slice p3 A_a.nums.length q4)] at hB9
  have X13 := Ext.gr (Ext.refl w) E10
  show wpList _ _ _ _ (fr [(.agg #[(Iv A_a.kind), (Iv A_a.a), (Iv A_a.b), (.slice p3 A_a.nums.length q4)]), (Pt b7 0), Ud, Ud, Ud, Ud, Ud, Ud, Ud, Ud, Ud, Ud, Ud, Ud, Ud, Ud, Ud, Ud, Ud, Ud, Ud, Ud, Ud, Ud, Ud, Ud, Ud]) _
  refine q_is rfl rfl (does_assign (u := (Bo false)) (ev rfl)) (by dsimp only [List.set]; try rfl) ?_
  refine wpList_nil (hK6 _ _ ?_)
  refine wp_seq_k fun K14 hK14 => ?_
  refine wp_region_lit ?_
  refine q_is rfl rfl (does_assign (u := (Iv 1048576)) (ev rfl)) (by dsimp only [List.set]; try rfl) ?_
  refine wpList_nil (hK14 _ _ ?_)
  refine wp_seq_k fun K15 hK15 => ?_
  refine wp_region_lit ?_
  refine q_is rfl rfl (does_loadAgg (cs := [(Iv A_a.kind), (Iv A_a.a), (Iv A_a.b), (.slice p3 A_a.nums.length q4)]) (ev rfl) Try.isAgg34 Try.sizeOf34 (Blk.cells hB9) rfl) (by dsimp only [List.set]; try rfl) ?_
  refine q_is rfl rfl (does_move (u := (Iv 1048576)) (ev rfl)) (by dsimp only [List.set]; try rfl) ?_
  refine seqd rfl rfl (does_call (args := #[(.agg #[(Iv A_a.kind), (Iv A_a.a), (Iv A_a.b), (.slice p3 A_a.nums.length q4)]), (Iv 1048576)]) cal10 (evs rfl) (c_laws_szNode [(Iv A_a.kind), (Iv A_a.a), (Iv A_a.b), (.slice p3 A_a.nums.length q4)] A_a 1048576 _ ⟨(.slice p3 A_a.nums.length q4), rfl, (Sl.ext hs5 RF.mono X13)⟩ (by omega) (by omega))) ?_; rintro _ w17 ⟨E16, ⟨i18, rfl, h19⟩⟩
  have X20 := Ext.gr X13 E16
  show wpList _ _ _ _ (fr [(.agg #[(Iv A_a.kind), (Iv A_a.a), (Iv A_a.b), (.slice p3 A_a.nums.length q4)]), (Pt b7 0), (Bo false), (Iv 1048576), Ud, Ud, Ud, (.agg #[(Iv A_a.kind), (Iv A_a.a), (Iv A_a.b), (.slice p3 A_a.nums.length q4)]), (Iv 1048576), (Iv i18), Ud, Ud, Ud, Ud, Ud, Ud, Ud, Ud, Ud, Ud, Ud, Ud, Ud, Ud, Ud, Ud, Ud]) _
  refine q_is rfl rfl (does_assign (u := (Iv i18)) (ev rfl)) (by dsimp only [List.set]; try rfl) ?_
  refine wpList_nil (hK15 _ _ ?_)
  refine wp_seq_k fun K21 hK21 => ?_
  refine wp_seq_k fun K22 hK22 => ?_
  refine wp_region_lit ?_
  refine q_is rfl rfl (does_move (u := (Iv i18)) (ev rfl)) (by dsimp only [List.set]; try rfl) ?_
  refine q_is rfl rfl (does_icmp (p := i18) (q := 0) (.inr (.inr (.inl rfl))) (ev rfl) (ev rfl)) (by dsimp only [List.set]; try rfl) ?_
  refine wpList_nil (hK22 _ _ ?_)
  refine wp_cond_split (t := icmp .lss i18 0) (ev rfl) (fun c23 => ?_) (fun c23 => ?_)
  · have c23' := c23
    (try simp only [icmp, Bool.and_eq_true, Bool.or_eq_true, Bool.and_eq_false_iff, Bool.or_eq_false_iff, Bool.not_eq_true', Bool.not_eq_false', decide_eq_true_eq, decide_eq_false_iff_not, beq_iff_eq, bne_iff_ne, beq_eq_false_iff_ne, bne_eq_false_iff_eq] at c23')
    refine wp_seq_k fun K24 hK24 => ?_
    refine wp_region_lit ?_
    refine q_is rfl rfl (does_assign (u := (Bo true)) (ev rfl)) (by dsimp only [List.set]; try rfl) ?_
    refine wpList_nil (hK24 _ _ ?_)
    refine wp_ret ?_
    dsimp only [Exit.then, Exit.inBlock]
    refine ret_val (v := (Bo true)) (res_T rfl (slot rfl)) X20 ?_
    exact rfl
  have c23' := c23
  (try simp only [icmp, Bool.and_eq_true, Bool.or_eq_true, Bool.and_eq_false_iff, Bool.or_eq_false_iff, Bool.not_eq_true', Bool.not_eq_false', decide_eq_true_eq, decide_eq_false_iff_not, beq_iff_eq, bne_iff_ne, beq_eq_false_iff_ne, bne_eq_false_iff_eq] at c23')
  refine wp_skip (hK21 _ _ ?_)
  refine wp_seq_k fun K25 hK25 => ?_
  refine wp_region_lit ?_
  refine q_is rfl rfl (does_loadAgg (cs := [(Iv A_a.kind), (Iv A_a.a), (Iv A_a.b), (.slice p3 A_a.nums.length q4)]) (ev rfl) Try.isAgg34 Try.sizeOf34 (Blk.cells (hB9.ext E16)) rfl) (by dsimp only [List.set]; try rfl) ?_
  refine seqd rfl rfl (does_call (args := #[(.agg #[(Iv A_a.kind), (Iv A_a.a), (Iv A_a.b), (.slice p3 A_a.nums.length q4)])]) cal12 (evs rfl) (c_laws_toNode [(Iv A_a.kind), (Iv A_a.a), (Iv A_a.b), (.slice p3 A_a.nums.length q4)] A_a _ ⟨(.slice p3 A_a.nums.length q4), rfl, (Sl.ext hs5 RF.mono X20)⟩ (by omega))) ?_; rintro _ w27 ⟨E26, ⟨cs29, rfl, hh28⟩⟩
  have X30 := Ext.gr X20 E26
  have n31 : b7 < w17.heap.size := Blk.lt (hB9.ext E16)
  obtain ⟨y32, rfl, h33⟩ := hh28.get
  have h33l := Sl.len h33; obtain ⟨p34, q35, rfl⟩ := Sl.shape h33
  have hh36 : Hang w17.heap.size w27 (fun u => Sl RF 1 u (.slice p34 A_a.nums.length q35) A_a.nums) := fun u hu => by obtain ⟨_, hq, _⟩ := hh28 u hu; cases hq; assumption
  show wpList _ _ _ _ (fr [(.agg #[(Iv A_a.kind), (Iv A_a.a), (Iv A_a.b), (.slice p3 A_a.nums.length q4)]), (Pt b7 0), (Bo false), (Iv i18), Ud, Ud, Ud, (.agg #[(Iv A_a.kind), (Iv A_a.a), (Iv A_a.b), (.slice p3 A_a.nums.length q4)]), (Iv 1048576), (Iv i18), (Iv i18), (Bo (icmp .lss i18 0)), (.agg #[(Iv A_a.kind), (Iv A_a.a), (Iv A_a.b), (.slice p3 A_a.nums.length q4)]), (.agg #[(Iv A_a.kind), (Iv A_a.a), (Iv A_a.b), (.slice p34 A_a.nums.length q35)]), Ud, Ud, Ud, Ud, Ud, Ud, Ud, Ud, Ud, Ud, Ud, Ud, Ud]) _
  refine seqd rfl rfl (does_call (args := #[(.agg #[(Iv A_a.kind), (Iv A_a.a), (Iv A_a.b), (.slice p34 A_a.nums.length q35)])]) cal11 (evs rfl) (c_spec_IsEmptyNode [(Iv A_a.kind), (Iv A_a.a), (Iv A_a.b), (.slice p34 A_a.nums.length q35)] A_a _ ⟨(.slice p34 A_a.nums.length q35), rfl, hh36.get⟩)) ?_; rintro _ w38 ⟨E37, rfl⟩
  have X39 := Ext.gr X30 E37
  show wpList _ _ _ _ (fr [(.agg #[(Iv A_a.kind), (Iv A_a.a), (Iv A_a.b), (.slice p3 A_a.nums.length q4)]), (Pt b7 0), (Bo false), (Iv i18), Ud, Ud, Ud, (.agg #[(Iv A_a.kind), (Iv A_a.a), (Iv A_a.b), (.slice p3 A_a.nums.length q4)]), (Iv 1048576), (Iv i18), (Iv i18), (Bo (icmp .lss i18 0)), (.agg #[(Iv A_a.kind), (Iv A_a.a), (Iv A_a.b), (.slice p3 A_a.nums.length q4)]), (.agg #[(Iv A_a.kind), (Iv A_a.a), (Iv A_a.b), (.slice p34 A_a.nums.length q35)]), (Bo (isEmS A_a)), Ud, Ud, Ud, Ud, Ud, Ud, Ud, Ud, Ud, Ud, Ud, Ud]) _
  refine q_is rfl rfl (does_assign (u := (Bo (isEmS A_a))) (ev rfl)) (by dsimp only [List.set]; try rfl) ?_
  refine wpList_nil (hK25 _ _ ?_)
  refine wp_seq_k fun K40 hK40 => ?_
  refine wp_region_lit ?_
  refine q_is rfl rfl (does_loadAgg (cs := [(Iv A_a.kind), (Iv A_a.a), (Iv A_a.b), (.slice p3 A_a.nums.length q4)]) (ev rfl) Try.isAgg34 Try.sizeOf34 (Blk.cells (((hB9.ext E16).ext E26).ext E37)) rfl) (by dsimp only [List.set]; try rfl) ?_
  refine seqd rfl rfl (does_call (args := #[(.agg #[(Iv A_a.kind), (Iv A_a.a), (Iv A_a.b), (.slice p3 A_a.nums.length q4)])]) cal12 (evs rfl) (c_laws_toNode [(Iv A_a.kind), (Iv A_a.a), (Iv A_a.b), (.slice p3 A_a.nums.length q4)] A_a _ ⟨(.slice p3 A_a.nums.length q4), rfl, (Sl.ext hs5 RF.mono X39)⟩ (by omega))) ?_; rintro _ w42 ⟨E41, ⟨cs44, rfl, hh43⟩⟩
  have X45 := Ext.gr X39 E41
  have n46 : b7 < w38.heap.size := Blk.lt (((hB9.ext E16).ext E26).ext E37)
  obtain ⟨y47, rfl, h48⟩ := hh43.get
  have h48l := Sl.len h48; obtain ⟨p49, q50, rfl⟩ := Sl.shape h48
  have hh51 : Hang w38.heap.size w42 (fun u => Sl RF 1 u (.slice p49 A_a.nums.length q50) A_a.nums) := fun u hu => by obtain ⟨_, hq, _⟩ := hh43 u hu; cases hq; assumption
  show wpList _ _ _ _ (fr [(.agg #[(Iv A_a.kind), (Iv A_a.a), (Iv A_a.b), (.slice p3 A_a.nums.length q4)]), (Pt b7 0), (Bo false), (Iv i18), (Bo (isEmS A_a)), Ud, Ud, (.agg #[(Iv A_a.kind), (Iv A_a.a), (Iv A_a.b), (.slice p3 A_a.nums.length q4)]), (Iv 1048576), (Iv i18), (Iv i18), (Bo (icmp .lss i18 0)), (.agg #[(Iv A_a.kind), (Iv A_a.a), (Iv A_a.b), (.slice p3 A_a.nums.length q4)]), (.agg #[(Iv A_a.kind), (Iv A_a.a), (Iv A_a.b), (.slice p34 A_a.nums.length q35)]), (Bo (isEmS A_a)), (.agg #[(Iv A_a.kind), (Iv A_a.a), (Iv A_a.b), (.slice p3 A_a.nums.length q4)]), (.agg #[(Iv A_a.kind), (Iv A_a.a), (Iv A_a.b), (.slice p49 A_a.nums.length q50)]), Ud, Ud, Ud, Ud, Ud, Ud, Ud, Ud, Ud, Ud]) _
  refine seqd rfl rfl (does_alloc z37) ?_; rintro _ w56 ⟨b52, rfl, hb53, hB54, E55⟩
  have n57 : b7 < b52 := Nat.lt_of_lt_of_le (Blk.lt ((((hB9.ext E16).ext E26).ext E37).ext E41)) hb53
  have g58 : w.heap.size ≤ b52 := Nat.le_trans (Below.size X45) hb53
  change Blk _ _ [(Iv 0), (Iv 0), (Iv 0), (.slice none 0 0)] at hB54
  have X59 := Ext.gr X45 E55
  show wpList _ _ _ _ (fr [(.agg #[(Iv A_a.kind), (Iv A_a.a), (Iv A_a.b), (.slice p3 A_a.nums.length q4)]), (Pt b7 0), (Bo false), (Iv i18), (Bo (isEmS A_a)), (Pt b52 0), Ud, (.agg #[(Iv A_a.kind), (Iv A_a.a), (Iv A_a.b), (.slice p3 A_a.nums.length q4)]), (Iv 1048576), (Iv i18), (Iv i18), (Bo (icmp .lss i18 0)), (.agg #[(Iv A_a.kind), (Iv A_a.a), (Iv A_a.b), (.slice p3 A_a.nums.length q4)]), (.agg #[(Iv A_a.kind), (Iv A_a.a), (Iv A_a.b), (.slice p34 A_a.nums.length q35)]), (Bo (isEmS A_a)), (.agg #[(Iv A_a.kind), (Iv A_a.a), (Iv A_a.b), (.slice p3 A_a.nums.length q4)]), (.agg #[(Iv A_a.kind), (Iv A_a.a), (Iv A_a.b), (.slice p49 A_a.nums.length q50)]), Ud, Ud, Ud, Ud, Ud, Ud, Ud, Ud, Ud, Ud]) _
  refine seqn rfl rfl (does_store (n := 4) (cs := [(Iv 0), (Iv 0), (Iv 0), (.slice none 0 0)]) (u := (.agg #[(Iv A_a.kind), (Iv A_a.a), (Iv A_a.b), (.slice p49 A_a.nums.length q50)])) (ev rfl) (ev rfl) Try.sizeOf37 rfl hB54 (Nat.le_of_ble_eq_true rfl) rfl) ?_; rintro _ w62 ⟨rfl, W60, hB61⟩
  change Blk _ _ [(Iv A_a.kind), (Iv A_a.a), (Iv A_a.b), (.slice p49 A_a.nums.length q50)] at hB61
  have X63 := Below.wr X59 W60 g58
  refine wpList_nil (hK40 _ _ ?_)
  refine wp_seq_k fun K64 hK64 => ?_
  refine wp_region_lit ?_
  refine q_is rfl rfl (does_loadAgg (cs := [(Iv A_a.kind), (Iv A_a.a), (Iv A_a.b), (.slice p49 A_a.nums.length q50)]) (ev rfl) Try.isAgg37 Try.sizeOf37 (Blk.cells hB61) rfl) (by dsimp only [List.set]; try rfl) ?_
  refine seqd rfl rfl (does_call (args := #[(.agg #[(Iv A_a.kind), (Iv A_a.a), (Iv A_a.b), (.slice p49 A_a.nums.length q50)])]) cal13 (evs rfl) (c_impl_IsEmptyNode [(Iv A_a.kind), (Iv A_a.a), (Iv A_a.b), (.slice p49 A_a.nums.length q50)] A_a _ ⟨(.slice p49 A_a.nums.length q50), rfl, (hh51 _ (((Same.refl _ _).ext E55).wr W60 (.inr (Nat.le_trans (Below.size (Ext.refl _)) hb53))))⟩ (by omega))) ?_; rintro _ w66 ⟨E65, rfl⟩
  have X67 := Ext.gr X63 E65
  show wpList _ _ _ _ (fr [(.agg #[(Iv A_a.kind), (Iv A_a.a), (Iv A_a.b), (.slice p3 A_a.nums.length q4)]), (Pt b7 0), (Bo false), (Iv i18), (Bo (isEmS A_a)), (Pt b52 0), Ud, (.agg #[(Iv A_a.kind), (Iv A_a.a), (Iv A_a.b), (.slice p3 A_a.nums.length q4)]), (Iv 1048576), (Iv i18), (Iv i18), (Bo (icmp .lss i18 0)), (.agg #[(Iv A_a.kind), (Iv A_a.a), (Iv A_a.b), (.slice p3 A_a.nums.length q4)]), (.agg #[(Iv A_a.kind), (Iv A_a.a), (Iv A_a.b), (.slice p34 A_a.nums.length q35)]), (Bo (isEmS A_a)), (.agg #[(Iv A_a.kind), (Iv A_a.a), (Iv A_a.b), (.slice p3 A_a.nums.length q4)]), (.agg #[(Iv A_a.kind), (Iv A_a.a), (Iv A_a.b), (.slice p49 A_a.nums.length q50)]), (.agg #[(Iv A_a.kind), (Iv A_a.a), (Iv A_a.b), (.slice p49 A_a.nums.length q50)]), (Bo (isEmI A_a)), Ud, Ud, Ud, Ud, Ud, Ud, Ud, Ud]) _
  refine q_is rfl rfl (does_assign (u := (Bo (isEmI A_a))) (ev rfl)) (by dsimp only [List.set]; try rfl) ?_
  refine wpList_nil (hK64 _ _ ?_)
  refine wp_seq_k fun K68 hK68 => ?_
  refine wp_seq_k fun K69 hK69 => ?_
  refine wp_region_lit ?_
  refine q_is rfl rfl (does_move (u := (Bo (isEmI A_a))) (ev rfl)) (by dsimp only [List.set]; try rfl) ?_
  refine q_is rfl rfl (does_move (u := (Bo (isEmS A_a))) (ev rfl)) (by dsimp only [List.set]; try rfl) ?_
  refine q_is rfl rfl (does_bne (p := (isEmI A_a)) (q := (isEmS A_a)) Try.underlying4 (ev rfl) (ev rfl)) (by dsimp only [List.set]; try rfl) ?_
  refine wpList_nil (hK69 _ _ ?_)
  refine wp_cond_split (t := (isEmI A_a) != (isEmS A_a)) (ev rfl) (fun c70 => ?_) (fun c70 => ?_)
  · have c70' := c70
    refine wp_seq_k fun K71 hK71 => ?_
    refine wp_region_lit ?_
    refine q_is rfl rfl (does_assign (u := (Bo false)) (ev rfl)) (by dsimp only [List.set]; try rfl) ?_
    refine wpList_nil (hK71 _ _ ?_)
    refine wp_ret ?_
    dsimp only [Exit.then, Exit.inBlock]
    refine ret_val (v := (Bo false)) (res_T rfl (slot rfl)) X67 ?_
    have x72 : true = false := by first | with_reducible rfl | (simp only [hem, sameNd_self, bne_self_eq_false, c23, c70]; done) | (simp [hem, sameNd_self, bne_self_eq_false, c23, c70]; done) | (revert c23 c70; simp +contextual [hem, sameNd_self, bne_self_eq_false]; done) | (rcases c23' with hh | hh <;> simp only [hh, hem, sameNd_self, bne_self_eq_false, c23, c70]; done) | (rcases c70' with hh | hh <;> simp only [hh, hem, sameNd_self, bne_self_eq_false, c23, c70]; done) | (rcases c70' with hh | hh <;> simp_all [hem, sameNd_self, bne_self_eq_false]; done) | (rcases c70' with hh | hh | hh <;> simp_all [hem, sameNd_self, bne_self_eq_false]; done) | (rcases c70' with hh | hh | hh | hh <;> simp_all [hem, sameNd_self, bne_self_eq_false]; done) | (simp_all [hem, sameNd_self, bne_self_eq_false]; done) | rfl
    exact (by first | rfl | rw [x72])
  have c70' := c70
  refine wp_skip (hK68 _ _ ?_)
  refine wp_seq_k fun K73 hK73 => ?_
  refine wp_seq_k fun K74 hK74 => ?_
  refine region_draw (
    [Fact.pure [] (fun v => v = (.agg #[(Iv A_a.kind), (Iv A_a.a), (Iv A_a.b), (.slice p49 A_a.nums.length q50)])),
    Fact.pure [] (fun v => v = (.agg #[(Iv A_a.kind), (Iv A_a.a), (Iv A_a.b), (.slice p3 A_a.nums.length q4)])),
    Fact.mem [23] (fun v w' => ∃ cs_1 : List Value, v = (.agg cs_1.toArray) ∧ Hang w66.heap.size w' (fun u => RNodeT u A_a cs_1)) (by rintro v w1 w2 hx ⟨z1, rfl, k0⟩; exact ⟨_, rfl, (k0.ext hx)⟩),
    Fact.pure [22, 24] (fun v => v = (Bo (sameNd A_a A_a))),
    Fact.pure [25] (fun v => v = (Bo (!(sameNd A_a A_a))))]) mixed (by kernel_rfl) (by intro _ _ d _ _ h; cases d <;> exact h) ?_
  obtain ⟨w75, hw77⟩ : ∃ w', w' = World.drew w66 := ⟨_, rfl⟩; rw [← hw77]; have E76 : Ext w66 w75 := by rw [hw77]; exact Ext.draw _
  clear hw77
  have X78 := Ext.gr X67 E76
  refine RW_d _ rfl (fun v => by dsimp only [List.set]; try rfl) (fun u hu hF => ?_) (fun v79 => ?_)
  · clear hF
    refine doesG_un rfl ?_
    refine (does_loadAgg (cs := [(Iv A_a.kind), (Iv A_a.a), (Iv A_a.b), (.slice p49 A_a.nums.length q50)]) (ev rfl) Try.isAgg37 Try.sizeOf37 (Blk.cells (((hB61.ext E65).ext E76).ext hu)) rfl).mono ?_; rintro _ _ ⟨rfl, rfl⟩
    exact ⟨rfl, Ext.refl _⟩
  refine RW_d _ rfl (fun v => by dsimp only [List.set]; try rfl) (fun u hu hF => ?_) (fun v80 => ?_)
  · clear hF
    refine doesG_un rfl ?_
    refine (does_loadAgg (cs := [(Iv A_a.kind), (Iv A_a.a), (Iv A_a.b), (.slice p3 A_a.nums.length q4)]) (ev rfl) Try.isAgg34 Try.sizeOf34 (Blk.cells (((((((((hB9.ext E16).ext E26).ext E37).ext E41).ext E55).wr W60 (Nat.ne_of_lt n57)).ext E65).ext E76).ext hu)) rfl).mono ?_; rintro _ _ ⟨rfl, rfl⟩
    exact ⟨rfl, Ext.refl _⟩
  refine RW_d _ rfl (fun v => by dsimp only [List.set]; try rfl) (fun u hu hF => ?_) (fun v81 => ?_)
  · have h23_ : v80 = (.agg #[(Iv A_a.kind), (Iv A_a.a), (Iv A_a.b), (.slice p3 A_a.nums.length q4)]) := hF.1
    clear hF
    refine doesG_un rfl ?_
    obtain rfl := h23_
    refine (does_call (args := #[(.agg #[(Iv A_a.kind), (Iv A_a.a), (Iv A_a.b), (.slice p3 A_a.nums.length q4)])]) cal12 (evs rfl) (c_laws_toNode [(Iv A_a.kind), (Iv A_a.a), (Iv A_a.b), (.slice p3 A_a.nums.length q4)] A_a _ ⟨(.slice p3 A_a.nums.length q4), rfl, (Sl.ext (Sl.ext hs5 RF.mono (Ext.gr X67 E76)) RF.mono hu)⟩ (by omega))).mono ?_; rintro v u' ⟨hx, ⟨csn1, hv, k0⟩⟩
    exact ⟨⟨csn1, hv, (Hang.le k0 (Nat.le_trans (Below.size E76) (Below.size hu)))⟩, hx⟩
  refine RW_d _ rfl (fun v => by dsimp only [List.set]; try rfl) (fun u hu hF => ?_) (fun v82 => ?_)
  · have h22_ : v79 = (.agg #[(Iv A_a.kind), (Iv A_a.a), (Iv A_a.b), (.slice p49 A_a.nums.length q50)]) := hF.1
    have h24_ : ∃ cs_1 : List Value, v81 = (.agg cs_1.toArray) ∧ Hang w66.heap.size u (fun u => RNodeT u A_a cs_1) := hF.2.1
    clear hF
    refine doesG_un rfl ?_
    obtain rfl := h22_
    obtain ⟨cs24_2, rfl, hh24_1⟩ := h24_
    obtain ⟨y24_3, rfl, h24_4⟩ := hh24_1.get
    have hh24_4 := h24_4; obtain ⟨p24_5, q24_6, rfl⟩ := Sl.shape h24_4
    refine (does_call (args := #[(.agg #[(Iv A_a.kind), (Iv A_a.a), (Iv A_a.b), (.slice p49 A_a.nums.length q50)]), (.agg #[(Iv A_a.kind), (Iv A_a.a), (Iv A_a.b), (.slice p24_5 A_a.nums.length q24_6)])]) cal14 (evs rfl) (c_laws_eqNode [(Iv A_a.kind), (Iv A_a.a), (Iv A_a.b), (.slice p49 A_a.nums.length q50)] A_a [(Iv A_a.kind), (Iv A_a.a), (Iv A_a.b), (.slice p24_5 A_a.nums.length q24_6)] A_a _ ⟨(.slice p49 A_a.nums.length q50), rfl, (Sl.ext (hh51 _ (((((Same.refl _ _).ext E55).wr W60 (.inr (Nat.le_trans (Below.size (Ext.refl _)) hb53))).ext E65).ext E76)) RF.mono hu)⟩ ⟨(.slice p24_5 A_a.nums.length q24_6), rfl, hh24_4⟩)).mono ?_; rintro v u' ⟨hx, hv⟩
    exact ⟨hv, hx⟩
  refine RW_d _ rfl (fun v => by dsimp only [List.set]; try rfl) (fun u hu hF => ?_) (fun v83 => ?_)
  · have h25_ : v82 = (Bo (sameNd A_a A_a)) := hF.1
    clear hF
    refine doesG_un rfl ?_
    obtain rfl := h25_
    refine (does_not (ev rfl)).mono ?_; rintro _ _ ⟨rfl, rfl⟩
    exact ⟨rfl, Ext.refl _⟩
  refine RW_fin ?_; intro w84 E85 hP86
  obtain ⟨⟨⟨⟨⟨-, -⟩, -⟩, -⟩, -⟩, q87⟩ := hP86
  have X88 := Ext.gr X78 E85
  have q87 : v83 = (Bo (!(sameNd A_a A_a))) := q87
  obtain rfl := q87
  show wpList _ _ _ _ (fr [(.agg #[(Iv A_a.kind), (Iv A_a.a), (Iv A_a.b), (.slice p3 A_a.nums.length q4)]), (Pt b7 0), (Bo false), (Iv i18), (Bo (isEmS A_a)), (Pt b52 0), (Bo (isEmI A_a)), (.agg #[(Iv A_a.kind), (Iv A_a.a), (Iv A_a.b), (.slice p3 A_a.nums.length q4)]), (Iv 1048576), (Iv i18), (Iv i18), (Bo (icmp .lss i18 0)), (.agg #[(Iv A_a.kind), (Iv A_a.a), (Iv A_a.b), (.slice p3 A_a.nums.length q4)]), (.agg #[(Iv A_a.kind), (Iv A_a.a), (Iv A_a.b), (.slice p34 A_a.nums.length q35)]), (Bo (isEmS A_a)), (.agg #[(Iv A_a.kind), (Iv A_a.a), (Iv A_a.b), (.slice p3 A_a.nums.length q4)]), (.agg #[(Iv A_a.kind), (Iv A_a.a), (Iv A_a.b), (.slice p49 A_a.nums.length q50)]), (.agg #[(Iv A_a.kind), (Iv A_a.a), (Iv A_a.b), (.slice p49 A_a.nums.length q50)]), (Bo (isEmI A_a)), (Bo (isEmI A_a)), (Bo (isEmS A_a)), (Bo ((isEmI A_a) != (isEmS A_a))), v79, v80, v81, v82, (Bo (!(sameNd A_a A_a)))]) _
  refine wpList_nil (hK74 _ _ ?_)
  refine wp_cond_split (t := !(sameNd A_a A_a)) (ev rfl) (fun c89 => ?_) (fun c89 => ?_)
  · rw [Bool.not_eq_true'] at c89
    have c89' := c89
    refine wp_seq_k fun K90 hK90 => ?_
    refine wp_region_lit ?_
    refine q_is rfl rfl (does_assign (u := (Bo false)) (ev rfl)) (by dsimp only [List.set]; try rfl) ?_
    refine wpList_nil (hK90 _ _ ?_)
    refine wp_ret ?_
    dsimp only [Exit.then, Exit.inBlock]
    refine ret_val (v := (Bo false)) (res_T rfl (slot rfl)) X88 ?_
    have x91 : true = false := by first | with_reducible rfl | (simp only [hem, sameNd_self, bne_self_eq_false, c23, c70, c89]; done) | (simp [hem, sameNd_self, bne_self_eq_false, c23, c70, c89]; done) | (revert c23 c70 c89; simp +contextual [hem, sameNd_self, bne_self_eq_false]; done) | (rcases c23' with hh | hh <;> simp only [hh, hem, sameNd_self, bne_self_eq_false, c23, c70, c89]; done) | (rcases c70' with hh | hh <;> simp only [hh, hem, sameNd_self, bne_self_eq_false, c23, c70, c89]; done) | (rcases c89' with hh | hh <;> simp only [hh, hem, sameNd_self, bne_self_eq_false, c23, c70, c89]; done) | (rcases c89' with hh | hh <;> simp_all [hem, sameNd_self, bne_self_eq_false]; done) | (rcases c89' with hh | hh | hh <;> simp_all [hem, sameNd_self, bne_self_eq_false]; done) | (rcases c89' with hh | hh | hh | hh <;> simp_all [hem, sameNd_self, bne_self_eq_false]; done) | (simp_all [hem, sameNd_self, bne_self_eq_false]; done) | rfl
    exact (by first | rfl | rw [x91])
  rw [Bool.not_eq_false'] at c89
  have c89' := c89
  refine wp_skip (hK73 _ _ ?_)
  refine wp_seq_k fun K92 hK92 => ?_
  refine wp_region_lit ?_
  refine q_is rfl rfl (does_assign (u := (Bo true)) (ev rfl)) (by dsimp only [List.set]; try rfl) ?_
  refine wpList_nil (hK92 _ _ ?_)
  refine wp_ret ?_
  refine ret_val (v := (Bo true)) (res_T rfl (slot rfl)) X88 ?_
  exact rfl

end Go.Proofs.Ytodelpmhbdaocaa
